/- A reading of the loaded code over plain data, its soundness, and what functions answer by it (part 11; joined by program). No condition. -/
import Derived.Test.YtdcgfapededocaaGreatKRw10
import Derived.WalkKit
import Derived.Lib.Walk
import Derived.Lib.SliceRun
set_option linter.all false
namespace Go.Proofs.YtdcgfapededocaaGreat
open Go Go.Lib
set_option maxRecDepth 100000
theorem clonestring_nil (n c : Nat) (w : World) : Calls Tryz.prog 153 #[.slice none n c] w fun e w' => e = .returned (.slice none 0 0) ∧ w' = w := by
  have t29 : Tryz.prog.underlying 22 = some (.slice 9) := by kernel_rfl
  have q29 : ∀ (w : World) (a : Option Addr) (n c n' c' : Nat), (binOp .eql 22 (.slice a n c) (.slice none n' c')).run Tryz.prog w = .ok (.bool a.isNone) w := fun w a n c n' c' => Lib.run_eql_slice_nil w _ _ a n c n' c' t29
  go_enter Tryz.func153, (rfl : Tryz.f153.ntmps = 8)
  go_wp2
  go_ret
  exact ⟨rfl, rfl⟩
theorem clonestring_none (a : Addr) (c : Nat) (w : World) : Calls Tryz.prog 153 #[.slice (some a) 0 c] w fun e w' => ∃ b, e = .returned (.slice b 0 0) ∧ Ext (fun _ => False) w w' := by
  have t29 : Tryz.prog.underlying 22 = some (.slice 9) := by kernel_rfl
  have q29 : ∀ (w : World) (a : Option Addr) (n c n' c' : Nat), (binOp .eql 22 (.slice a n c) (.slice none n' c')).run Tryz.prog w = .ok (.bool a.isNone) w := fun w a n c n' c' => Lib.run_eql_slice_nil w _ _ a n c n' c' t29
  go_enter Tryz.func153, (rfl : Tryz.f153.ntmps = 8)
  go_wp2
  go_ret
  refine ⟨some ⟨w.heap.size, 0, none⟩, ?_, push_ext _ w (.cells #[] 9)⟩
  simp
theorem clonestring_sound (m : Nat) : Sound Tryz.prog 153 [.sl m []] [] { val := .ref [0, 0, 0, 0] 0 0, own := [⟨false, 9, 1, [], none⟩] } := by
  refine ⟨⟨_, Tryz.func153, by decide, rfl⟩, fun w ι vals hl I hr _ _ _ _ => ?_⟩
  obtain ⟨x, rfl⟩ : ∃ x, vals = #[x] := ⟨vals.getD 0 undef, arr1 hl.symm undef⟩
  have h0 := hr 0 (by simp)
  simp at h0
  have left : ∀ w' b, Ext (fun _ => False) w w' → Left1 ι [] { val := .ref [0, 0, 0, 0] 0 0, own := [⟨false, 9, 1, [], none⟩] } w w' (.slice b 0 0) noMap := by
    intro w' b hx
    exact ⟨hx.mono fun _ _ h => h.elim, rfl, fun k hk => by simp at hk, fun k hk => by simp at hk; subst hk; exact .inl ⟨rfl, rfl, rfl⟩, (fun _ _ _ h => (noFoot h).elim), (by intro _ _ _ h; cases h), (fun _ _ h => (noFoot h).elim), .refE _ _ _⟩
  cases h0 with
  | slE m a cap =>
    cases a with
    | none => exact (clonestring_nil 0 cap w).mono fun e w' h => by obtain ⟨h1, h2⟩ := h; subst h2; exact ⟨_, _, h1, left _ none (Ext.refl _ _)⟩
    | some a => exact (clonestring_none a cap w).mono fun e w' h => by obtain ⟨b, h1, h2⟩ := h; exact ⟨_, _, h1, left w' b h2⟩
  | sl _ hn => exact absurd rfl hn
theorem cloneIo_nil (n c : Nat) (w : World) : Calls Tryz.prog 217 #[.slice none n c] w fun e w' => e = .returned (.slice none 0 0) ∧ w' = w := by
  have t29 : Tryz.prog.underlying 39 = some (.slice 105) := by kernel_rfl
  have q29 : ∀ (w : World) (a : Option Addr) (n c n' c' : Nat), (binOp .eql 39 (.slice a n c) (.slice none n' c')).run Tryz.prog w = .ok (.bool a.isNone) w := fun w a n c n' c' => Lib.run_eql_slice_nil w _ _ a n c n' c' t29
  go_enter Tryz.func217, (rfl : Tryz.f217.ntmps = 8)
  go_wp2
  go_ret
  exact ⟨rfl, rfl⟩
theorem cloneIo_none (a : Addr) (c : Nat) (w : World) : Calls Tryz.prog 217 #[.slice (some a) 0 c] w fun e w' => ∃ b, e = .returned (.slice b 0 0) ∧ Ext (fun _ => False) w w' := by
  have t29 : Tryz.prog.underlying 39 = some (.slice 105) := by kernel_rfl
  have q29 : ∀ (w : World) (a : Option Addr) (n c n' c' : Nat), (binOp .eql 39 (.slice a n c) (.slice none n' c')).run Tryz.prog w = .ok (.bool a.isNone) w := fun w a n c n' c' => Lib.run_eql_slice_nil w _ _ a n c n' c' t29
  go_enter Tryz.func217, (rfl : Tryz.f217.ntmps = 8)
  go_wp2
  go_ret
  refine ⟨some ⟨w.heap.size, 0, none⟩, ?_, push_ext _ w (.cells #[] 105)⟩
  simp
theorem cloneIo_sound (m : Nat) : Sound Tryz.prog 217 [.sl m []] [] { val := .ref [0, 0, 0, 0] 0 0, own := [⟨false, 105, 3, [], none⟩] } := by
  refine ⟨⟨_, Tryz.func217, by decide, rfl⟩, fun w ι vals hl I hr _ _ _ _ => ?_⟩
  obtain ⟨x, rfl⟩ : ∃ x, vals = #[x] := ⟨vals.getD 0 undef, arr1 hl.symm undef⟩
  have h0 := hr 0 (by simp)
  simp at h0
  have left : ∀ w' b, Ext (fun _ => False) w w' → Left1 ι [] { val := .ref [0, 0, 0, 0] 0 0, own := [⟨false, 105, 3, [], none⟩] } w w' (.slice b 0 0) noMap := by
    intro w' b hx
    exact ⟨hx.mono fun _ _ h => h.elim, rfl, fun k hk => by simp at hk, fun k hk => by simp at hk; subst hk; exact .inl ⟨rfl, rfl, rfl⟩, (fun _ _ _ h => (noFoot h).elim), (by intro _ _ _ h; cases h), (fun _ _ h => (noFoot h).elim), .refE _ _ _⟩
  cases h0 with
  | slE m a cap =>
    cases a with
    | none => exact (cloneIo_nil 0 cap w).mono fun e w' h => by obtain ⟨h1, h2⟩ := h; subst h2; exact ⟨_, _, h1, left _ none (Ext.refl _ _)⟩
    | some a => exact (cloneIo_none a cap w).mono fun e w' h => by obtain ⟨b, h1, h2⟩ := h; exact ⟨_, _, h1, left w' b h2⟩
  | sl _ hn => exact absurd rfl hn
theorem numL_eq : ∀ {l : List AV} {n : List Int}, numL l = some n → l = n.map (.int .i64) := by
  intro l
  induction l with
  | nil => intro n h; simp [numL] at h; subst h; rfl
  | cons c l ih =>
    intro n h
    unfold numL at h
    split at h
    · rename_i heq; cases heq
    · rename_i m l' heq
      injection heq with h1 h2; subst h1; subst h2
      cases hq : numL l with
      | none => simp [hq] at h
      | some q => simp [hq] at h; subst h; simp [← ih hq]
    · cases h
theorem pairL_eq : ∀ {l : List AV} {q : List (Tx × List Int)}, pairL l = some q → l = q.map eTN := by
  intro l
  induction l with
  | nil => intro n h; simp [pairL] at h; subst h; rfl
  | cons c l ih =>
    intro n h
    unfold pairL at h
    split at h
    · rename_i heq; cases heq
    · rename_i s ns l' heq
      injection heq with h1 h2; subst h1; subst h2
      split at h
      · rename_i m q h3 h4
        injection h with h; subst h
        rw [List.map_cons, ← ih h4, numL_eq h3]; rfl
      · cases h
    · cases h
theorem markSh_sound {args : List AV} {H : List (Id × Blk)} {r : Res} (h : markPX 110 3 args H = some r) : Sound Tryz.prog 135 args H r := by
  unfold markPX at h
  split at h
  · rename_i n k b
    split at h
    · rename_i l hl
      split at h
      · rename_i hc
        injection h with h; subst h
        obtain ⟨h1, h2, h3, h4, h5, h6, h7, h8⟩ := hc
        have e := pairL_eq hl
        obtain ⟨b1, b2, b3, b4, b5⟩ := b
        simp only at h1 h2 h3 h4 e
        subst h1; subst h2; subst h3; subst h4; subst e; subst h5
        exact markSh_walk l k ⟨h6, h7⟩ h8
      · cases h
    · cases h
  · cases h
theorem X0_sound {f : FuncId} {args : List AV} {H : List (Id × Blk)} {r : Res} (h : X0 f args H = some r) : Sound Tryz.prog f args H r := by
  unfold X0 at h
  split at h
  · rename_i hf
    subst hf
    split at h
    · exact refs_sound h
    · cases h
  split at h
  · rename_i hf
    subst hf
    exact markSh_sound h
  split at h
  · rename_i m
    unfold cloneOf at h
    split at h
    · rename_i hf; subst hf; simp at h; subst h; exact clonestring_sound m
    split at h
    · rename_i hf; subst hf; simp at h; subst h; exact cloneIo_sound m
    simp at h
  · cases h
theorem follows_mixed : Tryz.prog.follows .mixedOrders = true := by kernel_rfl
theorem calls_of {f : FuncId} {args : List AV} {b : Bool} {io own : List Blk} (h : E CX f args [] = some { val := .bool b, io := io, own := own }) {w : World} {vals : Array Value} (hl : args.length = vals.size)
    (hargs : ∀ i, i < args.length → Rep w (fun _ => False) noMap (args.getD i .dead) (vals.getD i undef)) : Calls Tryz.prog f vals w fun e w' => e = .returned (.bool b) ∧ Ext (fun _ => False) w w' :=
  E_calls (C := CX) follows_mixed (fun _ _ _ _ _ h => X0_sound h) h hl hargs
end Go.Proofs.YtdcgfapededocaaGreat



namespace Go.Proofs.YtdcgfapededocaaGreat
open Go
set_option linter.unusedSimpArgs false
set_option linter.unusedVariables false
def byteOf (n : Int) : UInt8 := UInt8.ofNat (n % 256).toNat
theorem byteOf_nat (n : Int) : ((byteOf n).toNat : Int) = n % 256 := by
  unfold byteOf
  rw [UInt8.toNat_ofNat']
  omega
theorem wrap_u8 (n : Int) : IntKind.u8.wrap n = ((byteOf n).toNat : Int) := by
  rw [byteOf_nat, IntKind.wrap_u8]
theorem wrap_byte (b : UInt8) : IntKind.i64.wrap ((b.toNat : Nat) : Int) = (b.toNat : Int) := wrap_id (by have := b.toNat_lt; omega)
def eByte (b : UInt8) : AV := .int .u8 (b.toNat : Int)
theorem bytesOf_map : ∀ l : List UInt8, bytesOf (l.map eByte) = some l := by
  intro l
  induction l with
  | nil => rfl
  | cons b l ih =>
    have h := b.toNat_lt
    simp only [List.map_cons, eByte, bytesOf]
    rw [if_pos (by omega), ih]
    simp
theorem sharesL_eByte (l : List UInt8) : AV.sharesL (l.map eByte) = false := sharesL_map (fun _ => rfl) l
theorem byte_lt (b : UInt8) : ((b.toNat : Nat) : Int) < 256 := by have := b.toNat_lt; omega
attribute [go_sem] wrap_u8 wrap_byte byte_lt bytesOf_map sharesL_eByte
/-- Four bytes of a number, the lowest first. -/
def four (n : Int) : List UInt8 := [byteOf n, byteOf (n / 256), byteOf (n / 65536), byteOf (n / 16777216)]
def packF : List Int → Tx
  | [] => []
  | n :: l => four n ++ packF l
def sumF : Tx → Int → Int → Int
  | [], _, n => n
  | b :: t, i, n => sumF t (i + 1) ((n + i * ((b.toNat : Int) + 1)).tmod 251)
def isNum (n : Int) : Bool := inn n 0 2147483647
def sealF (kind : Int) (l : List Int) : Tx :=
  [byteOf kind, byteOf l.length] ++ ([byteOf (sumF ([byteOf kind, byteOf l.length] ++ packF l) 1 0), 0] ++ packF l)
theorem packF_length : ∀ l, (packF l).length = 4 * l.length := by
  intro l
  induction l with
  | nil => rfl
  | cons n l ih => simp only [packF, List.length_append, ih, four, List.length_cons, List.length_nil]; omega
end Go.Proofs.YtdcgfapededocaaGreat



namespace Go.Proofs.YtdcgfapededocaaGreat
open Go
set_option linter.unusedSimpArgs false
set_option linter.unusedVariables false
structure Snp where
  name : Tx
  tab : List Int
  deriving Inhabited, DecidableEq
structure Img where
  refs : List Int
  tab : List Int
  snaps : List Snp
  data : List Int
  deriving Inhabited, DecidableEq
def eSnp (x : Snp) : AV := .agg [.str x.name, .sl 1 (x.tab.map (.int .i64))]
def eImg (m : Img) : AV := .agg [.sl 1 (m.refs.map (.int .i64)), .sl 1 (m.tab.map (.int .i64)), .sl 2 (m.snaps.map eSnp), .sl 1 (m.data.map (.int .i64))]
def tabs (m : Img) : List (List Int) := m.tab :: m.snaps.map Snp.tab
/-- The clusters of a table. -/
def clus : List Int → List Int
  | [] => []
  | n :: t => if 2 ≤ n then (n - 2) :: clus t else clus t
/-- How many of some tables have a cluster. -/
def hasN : List (List Int) → Nat → Nat
  | [], _ => 0
  | t :: ts, c => t.count ((c : Int) + 2) + hasN ts c
def refsOK (r : List Int) : Bool := decide (r.length = 24) && r.all (inn · 0 15)
def tabOK (t : List Int) : Bool := decide (t.length ≤ 12) && t.all (inn · 0 25)
def onceB (t : List Int) : Bool := decide (clus t).Nodup
def isLow (b : UInt8) : Bool := decide (97 ≤ b.toNat) && decide (b.toNat ≤ 122)
def snameOK (s : Tx) : Bool := s.all isLow && inn s.length 1 6
def snamesOK (l : List Tx) : Bool := decide (l.length ≤ 3) && l.all snameOK && decide l.Nodup
structure NearP (m : Img) : Prop where
  refs : m.refs.length = 24
  refsI : ∀ n ∈ m.refs, 0 ≤ n ∧ n ≤ 15
  names : snamesOK (m.snaps.map Snp.name) = true
  tabs : ∀ t ∈ tabs m, tabOK t = true ∧ onceB t = true
  data : m.data.length = 24
  dataI : ∀ n ∈ m.data, isNum n = true
theorem NearP.snaps {m : Img} (h : NearP m) : m.snaps.length ≤ 3 := by
  have := h.names
  simp [snamesOK] at this
  exact this.1.1
/-- What a right image says. -/
structure ImgP (m : Img) : Prop extends NearP m where
  ref : ∀ c, c < 24 → m.refs.getD c 0 = (hasN (Go.Proofs.YtdcgfapededocaaGreat.tabs m) c : Int)
  zero : ∀ c, c < 24 → hasN (Go.Proofs.YtdcgfapededocaaGreat.tabs m) c = 0 → m.data.getD c 0 = 0
end Go.Proofs.YtdcgfapededocaaGreat



namespace Go.Proofs.YtdcgfapededocaaGreat
open Go
set_option linter.unusedSimpArgs false
set_option linter.unusedVariables false
section
variable {m : Img} (P : ImgP m)
include P
theorem ImgP.tab : tabOK m.tab = true ∧ onceB m.tab = true := P.tabs _ (by simp [Go.Proofs.YtdcgfapededocaaGreat.tabs])
end
end Go.Proofs.YtdcgfapededocaaGreat



namespace Go.Proofs.YtdcgfapededocaaGreat
open Go
set_option linter.unusedSimpArgs false
set_option linter.unusedVariables false
end Go.Proofs.YtdcgfapededocaaGreat



namespace Go.Proofs.YtdcgfapededocaaGreat
open Go
set_option maxRecDepth 100000
set_option linter.unusedSimpArgs false
set_option linter.unusedVariables false
theorem firstAt_le {α : Type} (q : α → Bool) : ∀ (l : List α) (n : Nat), match firstAt q l n with
    | some k => l.any q = true
    | none => l.any q = false := by
  intro l
  induction l with
  | nil => intro n; simp [firstAt]
  | cons x l ih =>
    intro n
    unfold firstAt
    cases hq : q x
    · have := ih (n + 1)
      simp only [Bool.false_eq_true, if_false]
      cases hf : firstAt q l (n + 1) <;> rw [hf] at this <;> simp [hq] <;> simpa using this
    · simp [hq]
theorem any_not {α : Type} (q : α → Bool) (l : List α) : (l.any fun x => !q x) = !l.all q := by
  induction l with
  | nil => rfl
  | cons x l ih => simp only [List.any_cons, List.all_cons, ih]; cases q x <;> simp
theorem idx_any {α : Type} (q : α → Bool) (l : List α) : decide (0 ≤ idxOf (firstAt q l 0)) = l.any q := by
  have := firstAt_le q l 0
  cases hf : firstAt q l 0 with
  | none => rw [hf] at this; simp only at this; rw [this]; simp [idxOf]
  | some k => rw [hf] at this; simp only at this; rw [this]; simp [idxOf]
theorem notString_E (f : FuncId) (x : Tx) (b : Bool) (hio : (annA f).io = []) (hf : E CX f [AV.str x] [] = some { val := .bool b }) : E CX 146 [AV.str x, .rptr [.fn f []]] [] = some { val := .bool (!b) } := by
  refine E_fin Tryz.f146 _ an146 rfl rfl rfl Tryz.func146 rfl (by kernel_rfl) ?_
  simp [go_sem, hf, hio]
theorem indexFuncString_E (g : FuncId) (cap : List AV) (l : List Tx) (q : Tx → Bool) (hio : (annA g).io = []) (hl : l.length ≤ 1073741824) (hf : ∀ x, E CX g [AV.str x, .rptr cap] [] = some { val := .bool (q x) }) : E CX 186 [.sl 1 (l.map AV.str), .fn g [.rptr cap]] [] = some { val := .int .i64 (idxOf (firstAt q l 0)) } := by
  refine E_fin Tryz.f186 _ an186 rfl rfl rfl Tryz.func186 rfl (by kernel_rfl) ?_
  simp [go_sem]
  refine loop_list (fun X => fin CX _ _ X = _) l (fun n _ => True) (fun n (_ : Unit) => ⟨SS [(0, .sl 1 (l.map AV.str)), (1, .fn g [.rptr cap]), (7, .int .i64 l.length), (8, .int .i64 n)], HE⟩)
     (fun r n _ => match firstAt q r n with
    | some k => (.ret, ⟨SS [(4, .int .i64 k)], HE⟩)
    | none => (.exit 0, ⟨SS [], HE⟩)) () trivial ?_ ?_ ?_ ?_ ?_
  · simp [go_sem]
  · intro n _ x t hn hx hd _
    have hx := hx hn
    have hE := hf x
    cases hq : q x
    · rw [hq] at hE
      simp [go_sem, firstAt, hq, hio, hE, hn, hx, wrap_id (n := (n : Int) + 1) (by omega)]
    · rw [hq] at hE
      simp [go_sem, firstAt, hq, hio, hE, hn, hx]
  · intro _ _; simp [go_sem, firstAt]
  · intro _; simp [firstAt]
  · cases hr : firstAt q l 0 <;> simp [go_sem, hr, idxOf]
theorem containsFuncString_E (g : FuncId) (cap : List AV) (l : List Tx) (q : Tx → Bool) (hio : (annA g).io = []) (hl : l.length ≤ 1073741824) (hf : ∀ x, E CX g [AV.str x, .rptr cap] [] = some { val := .bool (q x) }) : E CX 145 [.sl 1 (l.map AV.str), .fn g [.rptr cap]] [] = some { val := .bool (l.any q) } := by
  refine E_fin Tryz.f145 _ an145 rfl rfl rfl Tryz.func145 rfl (by kernel_rfl) ?_
  simp [go_sem, indexFuncString_E g cap l q hio hl hf, idx_any]
theorem allString_E (f : FuncId) (l : List Tx) (q : Tx → Bool) (hio : (annA f).io = []) (hl : l.length ≤ 1073741824) (hf : ∀ x, E CX f [AV.str x] [] = some { val := .bool (q x) }) : E CX 81 [.sl 1 (l.map AV.str), .fn f []] [] = some { val := .bool (l.all q) } := by
  refine E_fin Tryz.f81 _ an81 rfl rfl rfl Tryz.func81 rfl (by kernel_rfl) ?_
  have h := containsFuncString_E 146 [.fn f []] l (fun x => !q x) rfl hl (fun x => notString_E f x (q x) hio (hf x))
  rw [any_not] at h
  simp [go_sem, h]
theorem notIo_E (f : FuncId) (x : Io) (b : Bool) (hio : (annA f).io = []) (hf : E CX f [eIo x] [] = some { val := .bool b }) : E CX 148 [eIo x, .rptr [.fn f []]] [] = some { val := .bool (!b) } := by
  refine E_fin Tryz.f148 _ an148 rfl rfl rfl Tryz.func148 rfl (by kernel_rfl) ?_
  simp only [eIo] at hf
  simp [go_sem, hf, hio, eIo]
theorem indexFuncIo_E (g : FuncId) (cap : List AV) (l : List Io) (q : Io → Bool) (hio : (annA g).io = []) (hl : l.length ≤ 1073741824) (hf : ∀ x, E CX g [eIo x, .rptr cap] [] = some { val := .bool (q x) }) : E CX 187 [.sl 3 (l.map eIo), .fn g [.rptr cap]] [] = some { val := .int .i64 (idxOf (firstAt q l 0)) } := by
  refine E_fin Tryz.f187 _ an187 rfl rfl rfl Tryz.func187 rfl (by kernel_rfl) ?_
  simp [go_sem]
  refine loop_list (fun X => fin CX _ _ X = _) l (fun n _ => True) (fun n (_ : Unit) => ⟨SS [(0, .sl 3 (l.map eIo)), (1, .fn g [.rptr cap]), (7, .int .i64 l.length), (8, .int .i64 n)], HE⟩)
     (fun r n _ => match firstAt q r n with
    | some k => (.ret, ⟨SS [(4, .int .i64 k)], HE⟩)
    | none => (.exit 0, ⟨SS [], HE⟩)) () trivial ?_ ?_ ?_ ?_ ?_
  · simp [go_sem]
  · intro n _ x t hn hx hd _
    have hx := hx hn
    have hE := hf x
    simp only [eIo] at hE
    cases hq : q x
    · rw [hq] at hE
      simp [go_sem, firstAt, hq, hio, hE, hn, hx, wrap_id (n := (n : Int) + 1) (by omega), eIo]
    · rw [hq] at hE
      simp [go_sem, firstAt, hq, hio, hE, hn, hx, eIo]
  · intro _ _; simp [go_sem, firstAt]
  · intro _; simp [firstAt]
  · cases hr : firstAt q l 0 <;> simp [go_sem, hr, idxOf]
theorem containsFuncIo_E (g : FuncId) (cap : List AV) (l : List Io) (q : Io → Bool) (hio : (annA g).io = []) (hl : l.length ≤ 1073741824) (hf : ∀ x, E CX g [eIo x, .rptr cap] [] = some { val := .bool (q x) }) : E CX 147 [.sl 3 (l.map eIo), .fn g [.rptr cap]] [] = some { val := .bool (l.any q) } := by
  refine E_fin Tryz.f147 _ an147 rfl rfl rfl Tryz.func147 rfl (by kernel_rfl) ?_
  simp [go_sem, indexFuncIo_E g cap l q hio hl hf, idx_any]
theorem allIo_E (f : FuncId) (l : List Io) (q : Io → Bool) (hio : (annA f).io = []) (hl : l.length ≤ 1073741824) (hf : ∀ x, E CX f [eIo x] [] = some { val := .bool (q x) }) : E CX 83 [.sl 3 (l.map eIo), .fn f []] [] = some { val := .bool (l.all q) } := by
  refine E_fin Tryz.f83 _ an83 rfl rfl rfl Tryz.func83 rfl (by kernel_rfl) ?_
  have h := containsFuncIo_E 148 [.fn f []] l (fun x => !q x) rfl hl (fun x => notIo_E f x (q x) hio (hf x))
  rw [any_not] at h
  simp [go_sem, h]
end Go.Proofs.YtdcgfapededocaaGreat



namespace Go.Proofs.YtdcgfapededocaaGreat
open Go
set_option maxRecDepth 100000
set_option linter.unusedSimpArgs false
set_option linter.unusedVariables false
end Go.Proofs.YtdcgfapededocaaGreat



namespace Go.Proofs.YtdcgfapededocaaGreat
open Go
set_option maxRecDepth 100000
set_option maxHeartbeats 1000000
set_option linter.unusedSimpArgs false
set_option linter.unusedVariables false
end Go.Proofs.YtdcgfapededocaaGreat



namespace Go.Proofs.YtdcgfapededocaaGreat
set_option linter.unusedSimpArgs false
set_option linter.unusedVariables false
section
variable {α : Type} [Inhabited α] (lt : α → α → Bool)
/-- 'lt' orders. -/
structure Ordr : Prop where
  irr : ∀ a, lt a a = false
  asy : ∀ a b, lt a b = true → lt b a = false
  tr : ∀ a b c, lt b a = false → lt c b = false → lt c a = false
  tot : ∀ a b, lt a b = false → lt b a = false → a = b
variable {lt}
end
end Go.Proofs.YtdcgfapededocaaGreat



namespace Go.Proofs.YtdcgfapededocaaGreat
open Go
set_option maxRecDepth 100000
set_option maxHeartbeats 1000000
set_option linter.unusedSimpArgs false
set_option linter.unusedVariables false
def rI (l : List Int) : Blk := ⟨false, 3, 1, l.map (.int .i64), none⟩
end Go.Proofs.YtdcgfapededocaaGreat



namespace Go.Proofs.YtdcgfapededocaaGreat
open Go
set_option maxRecDepth 100000
set_option maxHeartbeats 1000000
set_option linter.unusedSimpArgs false
set_option linter.unusedVariables false
end Go.Proofs.YtdcgfapededocaaGreat



namespace Go.Proofs.YtdcgfapededocaaGreat
open Go
set_option maxRecDepth 100000
set_option maxHeartbeats 1000000
set_option linter.unusedSimpArgs false
set_option linter.unusedVariables false
end Go.Proofs.YtdcgfapededocaaGreat



namespace Go.Proofs.YtdcgfapededocaaGreat
open Go
set_option maxRecDepth 100000
set_option maxHeartbeats 1000000
set_option linter.unusedSimpArgs false
set_option linter.unusedVariables false
end Go.Proofs.YtdcgfapededocaaGreat



namespace Go.Proofs.YtdcgfapededocaaGreat
open Go
set_option maxRecDepth 100000
set_option maxHeartbeats 1000000
set_option linter.unusedSimpArgs false
set_option linter.unusedVariables false
end Go.Proofs.YtdcgfapededocaaGreat



namespace Go.Proofs.YtdcgfapededocaaGreat
open Go
set_option maxRecDepth 100000
set_option maxHeartbeats 1000000
set_option linter.unusedSimpArgs false
set_option linter.unusedVariables false
end Go.Proofs.YtdcgfapededocaaGreat



namespace Go.Proofs.YtdcgfapededocaaGreat
open Go
set_option maxRecDepth 100000
set_option maxHeartbeats 1000000
set_option linter.unusedSimpArgs false
set_option linter.unusedVariables false
end Go.Proofs.YtdcgfapededocaaGreat



namespace Go.Proofs.YtdcgfapededocaaGreat
open Go
set_option maxRecDepth 100000
set_option maxHeartbeats 1000000
set_option linter.unusedSimpArgs false
set_option linter.unusedVariables false
def eTab (t : List Int) : AV := .sl 1 (t.map (.int .i64))
theorem names_E (m : Img) (hs : m.snaps.length ≤ 1000000) : E CX 207 [eImg m] [] = some { val := .ref [0, 0, 0, 0] 0 m.snaps.length, own := [⟨false, 9, 1, (m.snaps.map Snp.name).map .str, none⟩] } := by
  obtain ⟨r, t, s, d⟩ := m
  simp only at hs
  refine E_fin Tryz.f207 _ an207 rfl rfl rfl Tryz.func207 rfl (by kernel_rfl) ?_
  simp [go_sem, eImg]
  refine loop_for (fun X => fin CX _ _ X = _) s (fun n a => a.length = n) (fun n a => ⟨SS [(3, .ref [6] 0 a.length), (8, .sl 2 (s.map eSnp)), (9, .int .i64 s.length), (10, .int .i64 n)], HS [([6], ⟨false, 9, 1, a.map .str, none⟩)]⟩)
    (fun r n a => (.exit 0, ⟨SS [(3, .ref [6] 0 (a ++ r.map Snp.name).length)], HS [([6], ⟨false, 9, 1, (a ++ r.map Snp.name).map .str, none⟩)]⟩)) ([] : List Tx) (by simp) ?_ ?_ ?_ ?_ ?_
  · simp [go_sem]
  · intro R n a x r hn hx hd hI hR
    have hx := hx hn
    have := hR (a ++ [x.name]) (by simp; omega) (by simp)
    simp [go_sem] at this
    simp [go_sem, hn, hx, eSnp, wrap_id (n := (n : Int) + 1) (by omega), show a.length + 1 ≤ 1073741824 by omega]
    exact this
  · intro a hI; simp [go_sem]
  · intro _; simp
  · simp [go_sem]
theorem tables_E (m : Img) (hs : m.snaps.length ≤ 1000000) : E CX 209 [eImg m] [] = some { val := .ref [0, 0, 0, 0] 0 (tabs m).length, own := [⟨false, 29, 1, (tabs m).map eTab, none⟩] } := by
  obtain ⟨r, t, s, d⟩ := m
  simp only at hs
  refine E_fin Tryz.f209 _ an209 rfl rfl rfl Tryz.func209 rfl (by kernel_rfl) ?_
  simp [go_sem, eImg]
  refine loop_for (fun X => fin CX _ _ X = _) s (fun n a => a.length = n + 1) (fun n a => ⟨SS [(3, .ref [8] 0 a.length), (10, .sl 2 (s.map eSnp)), (11, .int .i64 s.length), (12, .int .i64 n)], HS [([8], ⟨false, 29, 1, a.map eTab, none⟩)]⟩)
    (fun r n a => (.exit 0, ⟨SS [(3, .ref [8] 0 (a ++ r.map Snp.tab).length)], HS [([8], ⟨false, 29, 1, (a ++ r.map Snp.tab).map eTab, none⟩)]⟩)) [t] (by simp) ?_ ?_ ?_ ?_ ?_
  · simp [go_sem, eTab]
  · intro R n a x r hn hx hd hI hR
    have hx := hx hn
    have := hR (a ++ [x.tab]) (by simp; omega) (by simp)
    simp [go_sem] at this
    simp [go_sem, hn, hx, eSnp, eTab, wrap_id (n := (n : Int) + 1) (by omega), show a.length + 1 ≤ 1073741824 by omega]
    simp [eTab] at this
    exact this
  · intro a hI; simp [go_sem]
  · intro _; simp
  · simp [go_sem, tabs]
end Go.Proofs.YtdcgfapededocaaGreat



namespace Go.Proofs.YtdcgfapededocaaGreat
open Go
set_option maxRecDepth 100000
set_option maxHeartbeats 1000000
set_option linter.unusedSimpArgs false
set_option linter.unusedVariables false
end Go.Proofs.YtdcgfapededocaaGreat



namespace Go.Proofs.YtdcgfapededocaaGreat
open Go
set_option maxRecDepth 100000
set_option maxHeartbeats 1000000
set_option linter.unusedSimpArgs false
set_option linter.unusedVariables false
end Go.Proofs.YtdcgfapededocaaGreat



namespace Go.Proofs.YtdcgfapededocaaGreat
open Go
structure Sht where
  name : Tx
  vals : List Int
  deriving Inhabited, DecidableEq
structure Gst where
  vals : List Int
  shots : List Sht
  deriving Inhabited, DecidableEq
def eSht (x : Sht) : AV := .agg [.str x.name, .sl 1 (x.vals.map (.int .i64))]
def eGst (g : Gst) : AV := .agg [.sl 1 (g.vals.map (.int .i64)), .sl 2 (g.shots.map eSht)]
end Go.Proofs.YtdcgfapededocaaGreat



namespace Go.Proofs.YtdcgfapededocaaGreat
open Go
set_option linter.unusedSimpArgs false
set_option linter.unusedVariables false
def valI (d : List Int) (e : Int) : Int := if e < 2 then 0 else d.getD (e - 2).toNat 0
def shown (m : Img) : Gst := ⟨m.tab.map (valI m.data), m.snaps.map fun s => ⟨s.name, s.tab.map (valI m.data)⟩⟩
section
variable {m : Img} (P : ImgP m)
include P
omit P in
omit P in
end
end Go.Proofs.YtdcgfapededocaaGreat



namespace Go.Proofs.YtdcgfapededocaaGreat
open Go
set_option maxRecDepth 100000
def vInt (n : Int) : Blk := ⟨true, 3, 1, [.int .i64 n], none⟩
def vBool (b : Bool) : Blk := ⟨true, 4, 1, [.bool b], none⟩
def vDisk (a b : AV) : Blk := ⟨true, 41, 2, [.agg [a, b]], none⟩
def rStr (l : List (List UInt8)) : Blk := ⟨false, 9, 1, l.map .str, none⟩
theorem settle1_E (x : Io) (h k : Int) (lose : Bool) (ss : List (List UInt8)) (n : Nat) (es : List AV) (ha : 0 ≤ x.at_ ∧ x.at_.toNat < ss.length) (hk : In64 k) :
    E CX 245 [eIo x, .ptr [1] 0 0, .ptr [2] 0 0, .ptr [3] 0 0, .ptr [4] 0 0] [([1], vInt h), ([2], vInt k), ([3], vDisk (.ref [3, 0] 0 ss.length) (.ref [3, 1] 0 n)), ([3, 0], rStr ss), ([3, 1], ⟨false, 105, 3, es, none⟩), ([4], vBool lose)] =
      some { val := .bool (if x.host = h then (if 0 < k then true else lose) else false), io := [vInt h, vInt (if x.host = h ∧ 0 < k then k - 1 else k), vDisk (.ref [3, 0] 0 ss.length) (.ref [3, 1] 0 n), rStr (if x.host = h ∧ 0 < k then ss.set x.at_.toNat x.data else ss), ⟨false, 105, 3, es, none⟩, vBool lose] } := by
  refine E_fin Tryz.f245 _ an245 rfl rfl rfl Tryz.func245 rfl (by kernel_rfl) ?_
  obtain ⟨hx, a, d⟩ := x
  obtain ⟨ha1, ha2⟩ := ha
  unfold In64 at hk
  by_cases c1 : hx = h
  · by_cases c2 : 0 < k
    · simp [go_sem, eIo, vInt, vBool, vDisk, rStr, c1, c2, ha1, ha2, wrap_id (n := k - 1) (by omega)]
    · simp [go_sem, eIo, vInt, vBool, vDisk, rStr, c1, c2]
  · simp [go_sem, eIo, vInt, vBool, vDisk, rStr, c1]
/-- Does a write go? -/
def goes (h k : Int) (lose : Bool) (x : Io) : Bool := if x.host = h then (if 0 < k then true else lose) else false
def kOf (h k : Int) (x : Io) : Int := if x.host = h ∧ 0 < k then k - 1 else k
def sOf (h k : Int) (ss : List (List UInt8)) (x : Io) : List (List UInt8) := if x.host = h ∧ 0 < k then ss.set x.at_.toNat x.data else ss
theorem settle1_E' (x : Io) (h k : Int) (lose : Bool) (ss : List (List UInt8)) (n m : Nat) (es : List AV) (hm : m = ss.length) (ha : 0 ≤ x.at_ ∧ x.at_.toNat < ss.length) (hk : In64 k) :
    E CX 245 [eIo x, .ptr [1] 0 0, .ptr [2] 0 0, .ptr [3] 0 0, .ptr [4] 0 0] [([1], ⟨true, 3, 1, [.int .i64 h], none⟩), ([2], ⟨true, 3, 1, [.int .i64 k], none⟩), ([3], ⟨true, 41, 2, [.agg [.ref [3, 0] 0 m, .ref [3, 1] 0 n]], none⟩), ([3, 0], ⟨false, 9, 1, ss.map .str, none⟩), ([3, 1], ⟨false, 105, 3, es, none⟩), ([4], ⟨true, 4, 1, [.bool lose], none⟩)] =
      some { val := .bool (goes h k lose x), io := [⟨true, 3, 1, [.int .i64 h], none⟩, ⟨true, 3, 1, [.int .i64 (kOf h k x)], none⟩, ⟨true, 41, 2, [.agg [.ref [3, 0] 0 m, .ref [3, 1] 0 n]], none⟩, ⟨false, 9, 1, (sOf h k ss x).map .str, none⟩, ⟨false, 105, 3, es, none⟩, ⟨true, 4, 1, [.bool lose], none⟩] } := by
  subst hm; exact settle1_E x h k lose ss n es ha hk
/-- Where the first one goes, and what it leaves. -/
theorem stay {h k : Int} {lose : Bool} {x : Io} (hg : goes h k lose x = false) : kOf h k x = k ∧ ∀ ss, sOf h k ss x = ss := by
  unfold goes at hg
  unfold kOf sOf
  by_cases c1 : x.host = h
  · by_cases c2 : 0 < k
    · simp [c1, c2] at hg
    · simp [c2]
  · simp [c1]
def after1 (h k : Int) (lose : Bool) (ss : List (List UInt8)) : List Io → Int × List (List UInt8)
  | [] => (k, ss)
  | x :: l => if goes h k lose x then (kOf h k x, sOf h k ss x) else after1 h k lose ss l
theorem idx204_E (ps : List Io) (h k : Int) (lose : Bool) (ss : List (List UInt8)) (hl : ps.length ≤ 1073741824) (hp : ∀ x ∈ ps, 0 ≤ x.at_ ∧ x.at_.toNat < ss.length) (hk : In64 k) :
    E CX 187 [.ref [0] 0 ps.length, .fn 245 [.ptr [1, 0] 0 0, .ptr [1, 1] 0 0, .ptr [1, 2] 0 0, .ptr [1, 3] 0 0]] [([0], ⟨false, 105, 3, ps.map eIo, none⟩), ([1, 0], ⟨true, 3, 1, [.int .i64 h], none⟩), ([1, 1], ⟨true, 3, 1, [.int .i64 k], none⟩), ([1, 2], ⟨true, 41, 2, [.agg [.ref [1, 2, 0] 0 ss.length, .ref [0] 0 ps.length]], none⟩), ([1, 2, 0], ⟨false, 9, 1, ss.map .str, none⟩), ([1, 3], ⟨true, 4, 1, [.bool lose], none⟩)] =
      some { val := .int .i64 (idxOf (firstAt (goes h k lose) ps 0)), io := [⟨false, 105, 3, ps.map eIo, none⟩, ⟨true, 3, 1, [.int .i64 h], none⟩, ⟨true, 3, 1, [.int .i64 (after1 h k lose ss ps).1], none⟩, ⟨true, 41, 2, [.agg [.ref [1, 2, 0] 0 ss.length, .ref [0] 0 ps.length]], none⟩, ⟨false, 9, 1, (after1 h k lose ss ps).2.map .str, none⟩, ⟨true, 4, 1, [.bool lose], none⟩] } := by
  refine E_fin Tryz.f187 _ an187 rfl rfl rfl Tryz.func187 rfl (by kernel_rfl) ?_
  simp [go_sem]
  refine loop_at (fun X => fin CX _ _ X = _) (fun n : Nat => n ≤ ps.length) (fun n => ⟨SS [(0, .ref [0] 0 ps.length), (1, .fn 245 [.ptr [1, 0] 0 0, .ptr [1, 1] 0 0, .ptr [1, 2] 0 0, .ptr [1, 3] 0 0]), (7, .int .i64 ps.length), (8, .int .i64 n)],
      HS [([0], ⟨false, 105, 3, ps.map eIo, none⟩), ([1, 0], ⟨true, 3, 1, [.int .i64 h], none⟩), ([1, 1], ⟨true, 3, 1, [.int .i64 k], none⟩), ([1, 2], ⟨true, 41, 2, [.agg [.ref [1, 2, 0] 0 ss.length, .ref [0] 0 ps.length]], none⟩), ([1, 2, 0], ⟨false, 9, 1, ss.map .str, none⟩), ([1, 3], ⟨true, 4, 1, [.bool lose], none⟩)]⟩)
     (fun n => (match firstAt (goes h k lose) (ps.drop n) n with | some _ => .ret | none => .exit 0, ⟨SS (match firstAt (goes h k lose) (ps.drop n) n with | some k => [(4, .int .i64 k)] | none => []),
      HS [([0], ⟨false, 105, 3, ps.map eIo, none⟩), ([1, 0], ⟨true, 3, 1, [.int .i64 h], none⟩), ([1, 1], ⟨true, 3, 1, [.int .i64 (after1 h k lose ss (ps.drop n)).1], none⟩), ([1, 2], ⟨true, 41, 2, [.agg [.ref [1, 2, 0] 0 ss.length, .ref [0] 0 ps.length]], none⟩), ([1, 2, 0], ⟨false, 9, 1, (after1 h k lose ss (ps.drop n)).2.map .str, none⟩), ([1, 3], ⟨true, 4, 1, [.bool lose], none⟩)]⟩)) (fun n => ps.length - n) 0 (by omega) ?_ ?_ ?_
  · simp [go_sem]
  · rintro n hn
    by_cases hlt : n < ps.length
    · obtain ⟨x, t, hx, hd, ht⟩ : ∃ x t, ps[n] = x ∧ ps.drop n = x :: t ∧ ps.drop (n + 1) = t := ⟨ps[n], ps.drop (n + 1), rfl, List.drop_eq_getElem_cons hlt, rfl⟩
      have hxp := hp x (by rw [← hx]; exact List.getElem_mem hlt)
      have hE := settle1_E' x h k lose ss ps.length ss.length (ps.map eIo) rfl hxp hk
      cases hq : goes h k lose x
      · obtain ⟨e1, e2⟩ := stay hq
        rw [hq, e1, e2] at hE
        simp only [eIo] at hE
        simp [go_sem, eIo, hd, firstAt, after1, hq, hE, hlt, hx, wrap_id (n := (n : Int) + 1) (by omega)]
        refine ⟨n + 1, by omega, by omega, ?_⟩
        simp [ht]
      · rw [hq] at hE
        simp only [eIo] at hE
        simp [go_sem, eIo, hd, firstAt, after1, hq, hE, hlt, hx]
    · have : ps.drop n = [] := List.drop_eq_nil_of_le (by omega)
      simp [go_sem, this, firstAt, hlt, after1]
  · cases hr : firstAt (goes h k lose) ps 0 <;> simp [go_sem, hr, idxOf]
end Go.Proofs.YtdcgfapededocaaGreat



namespace Go.Proofs.YtdcgfapededocaaGreat
open Go
set_option maxRecDepth 100000
structure DS where
  i : Nat
  k : Int
  ss : List (List UInt8)
  cur : List Io
def delF (h : Int) (lose : Bool) : List Io → DS → DS
  | [], s => s
  | x :: l, s => delF h lose l (if goes h s.k lose x then { s with k := kOf h s.k x, ss := sOf h s.k s.ss x } else { s with i := s.i + 1, cur := s.cur.set s.i x })
def dHeap (h : Int) (lose : Bool) (m n : Nat) (s : DS) : List (Id × Blk) := [([0], ⟨false, 105, 3, s.cur.map eIo, none⟩), ([1, 0], ⟨true, 3, 1, [.int .i64 h], none⟩), ([1, 1], ⟨true, 3, 1, [.int .i64 s.k], none⟩), ([1, 2], ⟨true, 41, 2, [.agg [.ref [1, 2, 0] 0 m, .ref [0] 0 n]], none⟩), ([1, 2, 0], ⟨false, 9, 1, s.ss.map .str, none⟩), ([1, 3], ⟨true, 4, 1, [.bool lose], none⟩)]
def zIo : Io := ⟨0, 0, []⟩
theorem del176_E (ps : List Io) (h k : Int) (lose : Bool) (ss : List (List UInt8)) (hl : ps.length ≤ 1073741824) (hp : ∀ x ∈ ps, 0 ≤ x.at_ ∧ x.at_.toNat < ss.length) (hk : In64 k) (hno : firstAt (goes h k lose) ps 0 = none) :
    E CX 244 [.ref [0] 0 ps.length, .fn 245 [.ptr [1, 0] 0 0, .ptr [1, 1] 0 0, .ptr [1, 2] 0 0, .ptr [1, 3] 0 0]] (dHeap h lose ss.length ps.length ⟨0, k, ss, ps⟩) =
      some { val := .ref [0] 0 ps.length, io := (dHeap h lose ss.length ps.length ⟨0, (after1 h k lose ss ps).1, (after1 h k lose ss ps).2, ps⟩).map (·.2) } := by
  refine E_fin Tryz.f244 _ an244 rfl rfl rfl Tryz.func244 rfl (by kernel_rfl) ?_
  have hE := idx204_E ps h k lose ss hl hp hk
  rw [hno] at hE
  simp [go_sem, dHeap, hE, idxOf]
structure DInv (ps : List Io) (m : Nat) (j : Nat) (s : DS) : Prop where
  hj : j ≤ ps.length
  hi : s.i < j
  hs : s.ss.length = m
  hlen : s.cur.length = ps.length
  hrest : s.cur.drop j = ps.drop j
  hk : In64 s.k
theorem delSome_E (ps : List Io) (h k : Int) (lose : Bool) (ss : List (List UInt8)) (hl : ps.length ≤ 1073741824) (hp : ∀ x ∈ ps, 0 ≤ x.at_ ∧ x.at_.toNat < ss.length) (hk : In64 k) (i0 : Nat) (hi0 : i0 < ps.length) (hf : firstAt (goes h k lose) ps 0 = some i0) (k1 : Int) (ss1 : List (List UInt8)) (ha : after1 h k lose ss ps = (k1, ss1)) (hk1 : In64 k1) (hs1 : ss1.length = ss.length) (r : DS) (hr : delF h lose (ps.drop (i0 + 1)) ⟨i0, k1, ss1, ps⟩ = r) (hri : r.i ≤ ps.length) (hrl : r.cur.length = ps.length) :
    E CX 244 [.ref [0] 0 ps.length, .fn 245 [.ptr [1, 0] 0 0, .ptr [1, 1] 0 0, .ptr [1, 2] 0 0, .ptr [1, 3] 0 0]] (dHeap h lose ss.length ps.length ⟨0, k, ss, ps⟩) =
      some { val := .ref [0] 0 r.i, io := (dHeap h lose ss.length ps.length ⟨0, r.k, r.ss, r.cur.take r.i ++ List.replicate (ps.length - r.i) zIo⟩).map (·.2) } := by
  refine E_fin Tryz.f244 _ an244 rfl rfl rfl Tryz.func244 rfl (by kernel_rfl) ?_
  have hE := idx204_E ps h k lose ss hl hp hk
  rw [hf, ha] at hE
  simp [go_sem, dHeap, hE, idxOf, wrap_id (n := (i0 : Int) + 1) (by omega)]
  refine loop_at (fun X => fin CX _ _ X = _) (fun x : Nat × DS => DInv ps ss.length x.1 x.2) (fun x => ⟨SS [(0, .ref [0] 0 ps.length), (1, .fn 245 [.ptr [1, 0] 0 0, .ptr [1, 1] 0 0, .ptr [1, 2] 0 0, .ptr [1, 3] 0 0]), (5, .int .i64 x.2.i), (6, .int .i64 x.1)], HS (dHeap h lose ss.length ps.length x.2)⟩)
    (fun x => (.exit 0, ⟨SS [(0, .ref [0] 0 ps.length), (5, .int .i64 (delF h lose (ps.drop x.1) x.2).i)], HS (dHeap h lose ss.length ps.length (delF h lose (ps.drop x.1) x.2))⟩)) (fun x => ps.length - x.1) (i0 + 1, ⟨i0, k1, ss1, ps⟩) ⟨by omega, by simp, hs1, by simp, by simp, hk1⟩ ?_ ?_ ?_
  · simp [go_sem, dHeap]
  · rintro ⟨j, s⟩ hI
    obtain ⟨i, kk, sk, cur⟩ := s
    obtain ⟨I1, I2, I3, I4, I5, I6⟩ := hI
    simp only at I1 I2 I3 I4 I5 I6
    by_cases hlt : j < ps.length
    · obtain ⟨x, t, hx, hd, ht⟩ : ∃ x t, ps[j] = x ∧ ps.drop j = x :: t ∧ ps.drop (j + 1) = t := ⟨ps[j], ps.drop (j + 1), rfl, List.drop_eq_getElem_cons hlt, rfl⟩
      have hxp := hp x (by rw [← hx]; exact List.getElem_mem hlt)
      have hlc : j < cur.length := by omega
      have hcj : cur[j]? = some x := by
        have : (cur.drop j)[0]? = some x := by rw [I5, hd]; rfl
        simpa using this
      have hcj' : cur[j] = x := by rw [List.getElem?_eq_getElem hlc] at hcj; injection hcj
      have hdc : cur.drop (j + 1) = t := by
        have := congrArg (List.drop 1) I5
        rw [List.drop_drop, hd] at this
        simpa [Nat.add_comm] using this
      have hlt2 : i < cur.length := by omega
      have hE := settle1_E' x h kk lose sk ps.length ss.length (cur.map eIo) I3.symm (by rw [I3]; exact hxp) I6
      cases hq : goes h kk lose x
      · obtain ⟨e1, e2⟩ := stay hq
        rw [hq, e1, e2] at hE
        simp only [eIo] at hE
        simp [go_sem, dHeap, eIo, hd, delF, hq, hE, hlt, hlc, hcj', I4, show i < ps.length from by omega, hlt2, wrap_id (n := (j : Int) + 1) (by omega), wrap_id (n := (i : Int) + 1) (by omega)]
        refine ⟨j + 1, ⟨i + 1, kk, sk, cur.set i x⟩, ⟨by omega, by simp; omega, I3, by simp [I4], ?_, I6⟩, by omega, ?_⟩
        · simp only [ht]; rw [List.drop_set_of_lt (by omega)]; exact hdc
        · simp [ht, List.map_set, eIo]
      · rw [hq] at hE
        simp only [eIo] at hE
        simp [go_sem, dHeap, eIo, hd, delF, hq, hE, hlt, hlc, hcj', I4, show i < ps.length from by omega, hlt2, wrap_id (n := (j : Int) + 1) (by omega), wrap_id (n := (i : Int) + 1) (by omega)]
        refine ⟨j + 1, ⟨i, kOf h kk x, sOf h kk sk x, cur⟩, ⟨by omega, by simp only; omega, ?_, I4, ?_, ?_⟩, by omega, ?_⟩
        · simp only [sOf]; split <;> simp [I3]
        · simp only [ht]; exact hdc
        · unfold In64 at I6 ⊢; simp only [kOf]; split <;> omega
        · simp [ht]
    · have : ps.drop j = [] := List.drop_eq_nil_of_le (by omega)
      simp [go_sem, dHeap, this, delF, hlt]
  · have hdn : List.drop (r.i + (ps.length - r.i)) r.cur = [] := List.drop_eq_nil_of_le (by omega)
    simp [go_sem, dHeap, hr, hri, hrl, zIo, hdn, eIo]
end Go.Proofs.YtdcgfapededocaaGreat



namespace Go.Proofs.YtdcgfapededocaaGreat
open Go
set_option maxRecDepth 100000
abbrev Txt := List UInt8
/-- Writes that are left, writes that may still land, and sectors. -/
def landL (h : Int) (lose : Bool) : List Io → Int → List Txt → List Io × Int × List Txt
  | [], k, ss => ([], k, ss)
  | x :: l, k, ss => if goes h k lose x then landL h lose l (kOf h k x) (sOf h k ss x) else (x :: (landL h lose l k ss).1, (landL h lose l k ss).2)
theorem delF_spec (h : Int) (lose : Bool) : ∀ (l : List Io) (s : DS), s.i + l.length ≤ s.cur.length →
    (delF h lose l s).i = s.i + (landL h lose l s.k s.ss).1.length ∧ ((delF h lose l s).k, (delF h lose l s).ss) = (landL h lose l s.k s.ss).2 ∧ (delF h lose l s).cur.length = s.cur.length ∧
    (delF h lose l s).cur.take (delF h lose l s).i = s.cur.take s.i ++ (landL h lose l s.k s.ss).1 := by
  intro l
  induction l with
  | nil => intro s _; simp [delF, landL]
  | cons x l ih =>
    intro s hs
    simp only [List.length_cons] at hs
    unfold delF landL
    by_cases hg : goes h s.k lose x = true
    · simp only [hg, if_true]
      exact ih ⟨s.i, kOf h s.k x, sOf h s.k s.ss x, s.cur⟩ (by simp only; omega)
    · simp only [hg]
      obtain ⟨h1, h2, h3, h4⟩ := ih ⟨s.i + 1, s.k, s.ss, s.cur.set s.i x⟩ (by simp only [List.length_set]; omega)
      simp only at h1 h2 h3 h4
      refine ⟨by simp only [Bool.false_eq_true, if_false, List.length_cons]; rw [h1]; omega, by simp only [Bool.false_eq_true, if_false]; exact h2, by simp only [Bool.false_eq_true, if_false]; rw [h3, List.length_set], ?_⟩
      simp only [Bool.false_eq_true, if_false]
      rw [h4, List.take_add_one, List.take_set_of_le (Nat.le_refl _)]
      simp [show s.i < s.cur.length from by omega]
theorem landL_len (h : Int) (lose : Bool) : ∀ (l : List Io) (k : Int) (ss : List Txt), (landL h lose l k ss).1.length ≤ l.length ∧ (landL h lose l k ss).2.2.length = ss.length := by
  intro l
  induction l with
  | nil => intro k ss; simp [landL]
  | cons x l ih =>
    intro k ss
    unfold landL
    split
    · have := ih (kOf h k x) (sOf h k ss x)
      refine ⟨by simp only [List.length_cons]; omega, ?_⟩
      rw [this.2]; unfold sOf; split <;> simp
    · have := ih k ss
      exact ⟨by simp only [List.length_cons]; omega, this.2⟩
theorem landL_all (h : Int) (lose : Bool) (p : Io → Prop) : ∀ (l : List Io) (k : Int) (ss : List Txt), (∀ x ∈ l, p x) → ∀ x ∈ (landL h lose l k ss).1, p x := by
  intro l
  induction l with
  | nil => intro k ss _ x hx; simp [landL] at hx
  | cons y l ih =>
    intro k ss hp x hx
    unfold landL at hx
    split at hx
    · exact ih _ _ (fun x hx => hp x (by simp [hx])) x hx
    · simp only [List.mem_cons] at hx
      rcases hx with rfl | hx
      · exact hp _ (by simp)
      · exact ih _ _ (fun x hx => hp x (by simp [hx])) x hx
theorem landL_first (h : Int) (lose : Bool) (k : Int) (ss : List Txt) : ∀ (l : List Io) (n : Nat), match firstAt (goes h k lose) l n with
    | none => landL h lose l k ss = (l, k, ss) ∧ after1 h k lose ss l = (k, ss)
    | some i => ∃ j, i = n + j ∧ j < l.length ∧ landL h lose l k ss = (l.take j ++ (landL h lose (l.drop (j + 1)) (after1 h k lose ss l).1 (after1 h k lose ss l).2).1, (landL h lose (l.drop (j + 1)) (after1 h k lose ss l).1 (after1 h k lose ss l).2).2) := by
  intro l
  induction l with
  | nil => intro n; simp [firstAt, landL, after1]
  | cons x l ih =>
    intro n
    unfold firstAt
    by_cases hg : goes h k lose x = true
    · simp only [hg, if_true]
      exact ⟨0, by omega, by simp, by simp [landL, after1, hg]⟩
    · simp only [hg, Bool.false_eq_true, if_false]
      have := ih (n + 1)
      cases hf : firstAt (goes h k lose) l (n + 1) with
      | none => rw [hf] at this; simp [landL, after1, hg, this.1, this.2]
      | some i =>
        rw [hf] at this
        obtain ⟨j, e1, e2, e3⟩ := this
        refine ⟨j + 1, by omega, by simpa using e2, ?_⟩
        simp only [landL, after1, hg, Bool.false_eq_true, if_false, e3]
        simp
theorem after1_len (h k : Int) (lose : Bool) (ss : List Txt) : ∀ l : List Io, (after1 h k lose ss l).2.length = ss.length := by
  intro l
  induction l with
  | nil => rfl
  | cons x l ih =>
    unfold after1
    split
    · unfold sOf; split <;> simp
    · exact ih
theorem after1_k (h k : Int) (lose : Bool) (ss : List Txt) (hk : In64 k) : ∀ l : List Io, In64 (after1 h k lose ss l).1 := by
  intro l
  induction l with
  | nil => exact hk
  | cons x l ih =>
    unfold after1
    split
    · unfold In64 at hk ⊢; unfold kOf; simp only; split <;> omega
    · exact ih
theorem del_E (ps : List Io) (h k : Int) (lose : Bool) (ss : List Txt) (hl : ps.length ≤ 1073741824) (hp : ∀ x ∈ ps, 0 ≤ x.at_ ∧ x.at_.toNat < ss.length) (hk : In64 k) :
    E CX 244 [.ref [0] 0 ps.length, .fn 245 [.ptr [1, 0] 0 0, .ptr [1, 1] 0 0, .ptr [1, 2] 0 0, .ptr [1, 3] 0 0]] (dHeap h lose ss.length ps.length ⟨0, k, ss, ps⟩) =
      some { val := .ref [0] 0 (landL h lose ps k ss).1.length, io := (dHeap h lose ss.length ps.length ⟨0, (landL h lose ps k ss).2.1, (landL h lose ps k ss).2.2, (landL h lose ps k ss).1 ++ List.replicate (ps.length - (landL h lose ps k ss).1.length) zIo⟩).map (·.2) } := by
  have hf := landL_first h lose k ss ps 0
  cases hc : firstAt (goes h k lose) ps 0 with
  | none =>
    rw [hc] at hf
    rw [del176_E ps h k lose ss hl hp hk hc, hf.1, hf.2]
    simp
  | some i0 =>
    rw [hc] at hf
    obtain ⟨j, e1, e2, e3⟩ := hf
    have : i0 = j := by omega
    subst this
    have hs := delF_spec h lose (ps.drop (i0 + 1)) ⟨i0, (after1 h k lose ss ps).1, (after1 h k lose ss ps).2, ps⟩ (by simp only [List.length_drop]; omega)
    have hln := (landL_len h lose (ps.drop (i0 + 1)) (after1 h k lose ss ps).1 (after1 h k lose ss ps).2).1
    simp only [List.length_drop] at hln
    obtain ⟨s1, s2, s3, s4⟩ := hs
    simp only at s1 s2 s3 s4
    have := delSome_E ps h k lose ss hl hp hk i0 e2 hc (after1 h k lose ss ps).1 (after1 h k lose ss ps).2 rfl (after1_k h k lose ss hk ps) (after1_len h k lose ss ps) _ rfl (by rw [s1]; omega) s3
    rw [this, s4, e3, s1, ← s2]
    simp [Nat.min_eq_left (Nat.le_of_lt e2)]
end Go.Proofs.YtdcgfapededocaaGreat



namespace Go.Proofs.YtdcgfapededocaaGreat
open Go
set_option maxRecDepth 100000
set_option linter.unusedSimpArgs false
set_option linter.unusedVariables false
def firstP : List (Bool × Int) → Int
  | [] => 0
  | p :: l => if p.1 then p.2 else firstP l
def anys : List (Bool × Int) → List AV
  | [] => []
  | p :: l => .iface 4 (.bool p.1) :: .iface 3 (.int .i64 p.2) :: anys l
theorem anys_length : ∀ l, (anys l).length = 2 * l.length := by
  intro l
  induction l with
  | nil => rfl
  | cons p l ih => simp only [anys, List.length_cons, ih]; omega
theorem anys_at : ∀ (l : List (Bool × Int)) (n : Nat) (p : Bool × Int), l[n]? = some p → (anys l)[2 * n]? = some (.iface 4 (.bool p.1)) ∧ (anys l)[2 * n + 1]? = some (.iface 3 (.int .i64 p.2)) := by
  intro l
  induction l with
  | nil => intro n p h; simp at h
  | cons q l ih =>
    intro n p h
    cases n with
    | zero => simp at h; subst h; simp [anys]
    | succ n =>
      have := ih n p (by simpa using h)
      simpa [anys, Nat.mul_add, show 2 * n + 2 + 1 = 2 * n + 1 + 1 + 1 by omega] using this
def hits : List (Bool × Int) → Bool
  | [] => false
  | p :: l => p.1 || hits l
theorem hits_no : ∀ l, hits l = false → firstP l = 0 := by
  intro l
  induction l with
  | nil => intro _; rfl
  | cons p l ih => intro h; simp only [hits, Bool.or_eq_false_iff] at h; simp [firstP, h.1, ih h.2]
theorem ge_of {α : Type} {l : List α} {i : Nat} {v : α} (a : l[i]? = some v) (h : i < l.length) : l[i]'h = v := by
  rw [List.getElem?_eq_getElem h] at a; exact Option.some.inj a
theorem first_E (l : List (Bool × Int)) (hl : l.length ≤ 1000) : E CX 48 [.sl 1 (anys l)] [] = some { val := .int .i64 (firstP l) } := by
  refine E_fin Tryz.f48 _ an48 rfl rfl rfl Tryz.func48 rfl (by kernel_rfl) ?_
  simp [go_sem]
  refine loop_at (fun X => fin CX _ _ X = _) (fun n : Nat => n ≤ l.length) (fun n => ⟨SS [(0, .sl 1 (anys l)), (3, .int .i64 (2 * n : Nat))], HE⟩)
     (fun n => match hits (l.drop n) with
      | true => (.ret, ⟨SS [(2, .int .i64 (firstP (l.drop n)))], HE⟩)
      | false => (.exit 0, ⟨SS [], HE⟩)) (fun n => l.length - n) 0 (by omega) ?_ ?_ ?_
  · simp [go_sem]
  · intro n hn
    by_cases hlt : n < l.length
    · obtain ⟨p, t, hp, hd, ht⟩ := cut_at hlt
      obtain ⟨a1, a2⟩ := anys_at l n p (by rw [List.getElem?_eq_getElem hlt, hp])
      have w1 : IntKind.i64.wrap (2 * (n : Int) + 1) = 2 * (n : Int) + 1 := wrap_id (by omega)
      have w2 : IntKind.i64.wrap (2 * (n : Int) + 2) = 2 * (n : Int) + 2 := wrap_id (by omega)
      have t1 : (2 * (n : Int)).toNat = 2 * n := by omega
      have t2 : (2 * (n : Int) + 1).toNat = 2 * n + 1 := by omega
      obtain ⟨b, c⟩ := p
      cases b
      · simp [go_sem, anys_length, w1, w2, t1, t2, a1, a2, ge_of a1, ge_of a2, hd, firstP, hits, show 2 * (n : Int) + 1 < 2 * (l.length : Int) by omega, show 2 * n < 2 * l.length by omega, show 0 ≤ 2 * (n : Int) by omega]
        refine ⟨n + 1, by omega, by omega, ?_, by rw [ht]⟩
        simp [Int.mul_add]
      · simp [go_sem, anys_length, w1, w2, t1, t2, a1, a2, ge_of a1, ge_of a2, hd, firstP, hits, show 2 * (n : Int) + 1 < 2 * (l.length : Int) by omega, show 2 * n < 2 * l.length by omega, show 2 * n + 1 < 2 * l.length by omega, show 0 ≤ 2 * (n : Int) by omega, show 0 ≤ 2 * (n : Int) + 1 by omega]
    · have : l.drop n = [] := List.drop_eq_nil_of_le (by omega)
      have w1 : IntKind.i64.wrap (2 * (n : Int) + 1) = 2 * (n : Int) + 1 := wrap_id (by omega)
      simp [go_sem, this, anys_length, w1, hits, show ¬ 2 * (n : Int) + 1 < 2 * (l.length : Int) by omega]
  · cases hr : hits l
    · simp [go_sem, hr, hits_no l hr]
    · simp [go_sem, hr]
/-- A right disk. -/
def diskOK (d : Disk) : Bool := decide (d.ss.length = 64) && d.ss.all (fun s => decide (s.length ≤ 80)) && decide (d.ps.length ≤ 200) && d.ps.all ioOK
theorem diskOK1_E (x : Io) : E CX 84 [eIo x] [] = some { val := .bool (ioOK x) } := by
  refine E_fin Tryz.f84 _ an84 rfl rfl rfl Tryz.func84 rfl (by kernel_rfl) ?_
  have e1 := isHost_E x.host
  have e2 := isPlace_E x.at_
  have e3 := isSector_E x.data
  cases h1 : inn x.host 0 3
  · simp [go_sem, eIo, e1, h1, ioOK]
  · cases h2 : inn x.at_ 0 63
    · simp [go_sem, eIo, e1, e2, h1, h2, ioOK]
    · simp [go_sem, eIo, e1, e2, e3, h1, h2, ioOK]
theorem diskOK_E (d : Disk) (h1 : d.ss.length ≤ 1073741824) (h2 : d.ps.length ≤ 1073741824) : E CX 34 [eDisk d] [] = some { val := .bool (diskOK d) } := by
  refine E_fin Tryz.f34 _ an34 rfl rfl rfl Tryz.func34 rfl (by kernel_rfl) ?_
  have e1 := allString_E 82 d.ss (fun s => decide (s.length ≤ 80)) rfl h1 isSector_E
  have e2 := allIo_E 84 d.ps ioOK rfl h2 diskOK1_E
  unfold diskOK
  by_cases c1 : d.ss.length = 64
  · have c1' : (d.ss.length : Int) = 64 := by omega
    cases c2 : d.ss.all (fun s => decide (s.length ≤ 80))
    · simp [go_sem, eDisk, e1, c1, c1', c2]
    · rw [c2] at e1
      by_cases c3 : d.ps.length ≤ 200
      · have c3' : (d.ps.length : Int) ≤ 200 := by omega
        cases c4 : d.ps.all ioOK <;> rw [c4] at e2 <;> simp [go_sem, eDisk, e1, e2, c1, c1', c3, c3', c4]
      · have c3' : ¬ (d.ps.length : Int) ≤ 200 := by omega
        simp [go_sem, eDisk, e1, c1, c1', c3, c3']
  · have c1' : ¬ (d.ss.length : Int) = 64 := by omega
    simp [go_sem, eDisk, c1, c1']
def askC (d : Disk) (host : Int) : Int := if diskOK d then (if inn host 0 3 then 0 else 4) else 1
theorem codes_E (d : Disk) (host : Int) (h1 : d.ss.length ≤ 1073741824) (h2 : d.ps.length ≤ 1073741824) : E CX 162 [eDisk d, .int .i64 host] [] = some { val := .int .i64 (askC d host) } := by
  refine E_fin Tryz.f162 _ an162 rfl rfl rfl Tryz.func162 rfl (by kernel_rfl) ?_
  have e1 := diskOK_E d h1 h2
  have e2 := isHost_E host
  have e3 := first_E [(!diskOK d, 1), (!inn host 0 3, 4)] (by simp)
  simp only [anys] at e3
  simp only [eDisk] at e1
  simp [go_sem, eDisk, e1, e2, e3, firstP, askC]
  cases diskOK d <;> cases inn host 0 3 <;> rfl
theorem cloneString_E (l : List Tx) (hl : l.length ≤ 1073741824) : E CX 153 [.sl 1 (l.map .str)] [] = some { val := .ref [0, 0, 0, 0] 0 l.length, own := [⟨false, 9, 1, l.map .str, none⟩] } := by
  cases l with
  | nil => exact E_ext rfl rfl
  | cons s l =>
    refine E_fin Tryz.f153 _ an153 rfl rfl rfl Tryz.func153 rfl (by kernel_rfl) ?_
    simp only [List.length_cons] at hl
    simp [go_sem, hl]
theorem cloneIo_E (l : List Io) (hl : l.length ≤ 1073741824) : E CX 217 [.sl 3 (l.map eIo)] [] = some { val := .ref [0, 0, 0, 0] 0 l.length, own := [⟨false, 105, 3, l.map eIo, none⟩] } := by
  cases l with
  | nil => exact E_ext rfl rfl
  | cons s l =>
    refine E_fin Tryz.f217 _ an217 rfl rfl rfl Tryz.func217 rfl (by kernel_rfl) ?_
    simp only [List.length_cons] at hl
    simp [go_sem, hl]
theorem copied_E (d : Disk) (h1 : d.ss.length ≤ 1073741824) (h2 : d.ps.length ≤ 1073741824) : E CX 181 [eDisk d] [] = some { val := .agg [.ref [0, 0, 0, 0] 0 d.ss.length, .ref [1, 0, 0, 0] 0 d.ps.length], own := [⟨false, 9, 1, d.ss.map .str, none⟩, ⟨false, 105, 3, d.ps.map eIo, none⟩] } := by
  refine E_fin Tryz.f181 _ an181 rfl rfl rfl Tryz.func181 rfl (by kernel_rfl) ?_
  simp [go_sem, eDisk, cloneString_E d.ss h1, cloneIo_E d.ps h2]
/-- What writes that settle leave. -/
def settleD (d : Disk) (h k : Int) (lose : Bool) : Disk := ⟨(landL h lose d.ps k d.ss).2.2, (landL h lose d.ps k d.ss).1⟩
theorem settle_E (d : Disk) (h k : Int) (lose : Bool) (h1 : d.ss.length ≤ 1073741824) (h2 : d.ps.length ≤ 1073741824) (hp : ∀ x ∈ d.ps, 0 ≤ x.at_ ∧ x.at_.toNat < d.ss.length) (hk : In64 k) :
    E CX 220 [eDisk d, .int .i64 h, .int .i64 k, .bool lose] [] = some { val := .agg [.ref [0, 0, 0, 0] 0 d.ss.length, .ref [1, 0, 0, 0] 0 (settleD d h k lose).ps.length], own := [⟨false, 9, 1, (settleD d h k lose).ss.map .str, none⟩, ⟨false, 105, 3, ((settleD d h k lose).ps ++ List.replicate (d.ps.length - (settleD d h k lose).ps.length) zIo).map eIo, none⟩] } := by
  refine E_fin Tryz.f220 _ an220 rfl rfl rfl Tryz.func220 rfl (by kernel_rfl) ?_
  have e1 := copied_E d h1 h2
  simp only [eDisk] at e1
  have e2 := del_E d.ps h k lose d.ss h2 hp hk
  simp only [dHeap, List.map_cons, List.map_nil] at e2
  simp only [settleD]
  simp [go_sem, eDisk, e1, e2]
end Go.Proofs.YtdcgfapededocaaGreat



namespace Go.Proofs.YtdcgfapededocaaGreat
open Go
set_option maxRecDepth 100000
set_option maxHeartbeats 1000000
set_option linter.unusedSimpArgs false
set_option linter.unusedVariables false
/-- Sizes that a machine has. -/
structure ImgB (m : Img) : Prop where
  refs : m.refs.length ≤ 1073741824
  tab : m.tab.length ≤ 1073741824
  snaps : m.snaps.length ≤ 1073741824
  data : m.data.length ≤ 1073741824
  names : ∀ s ∈ m.snaps, s.name.length ≤ 1099511627776
  tabs : ∀ s ∈ m.snaps, s.tab.length ≤ 1073741824
end Go.Proofs.YtdcgfapededocaaGreat



namespace Go.Proofs.YtdcgfapededocaaGreat
open Go
set_option maxRecDepth 100000
set_option maxHeartbeats 1000000
set_option linter.unusedSimpArgs false
set_option linter.unusedVariables false
end Go.Proofs.YtdcgfapededocaaGreat



namespace Go.Proofs.YtdcgfapededocaaGreat
open Go
set_option maxRecDepth 100000
set_option maxHeartbeats 1000000
set_option linter.unusedSimpArgs false
set_option linter.unusedVariables false
end Go.Proofs.YtdcgfapededocaaGreat



namespace Go.Proofs.YtdcgfapededocaaGreat
open Go
set_option maxRecDepth 100000
set_option maxHeartbeats 2000000
set_option linter.unusedSimpArgs false
set_option linter.unusedVariables false
theorem sname_len {s : Tx} (h : snameOK s = true) : 1 ≤ s.length ∧ s.length ≤ 6 := by
  simp only [snameOK, Bool.and_eq_true, inn, decide_eq_true_eq] at h
  omega
theorem NearP.nameOK {m : Img} (P : NearP m) : ∀ s ∈ m.snaps, snameOK s.name = true := by
  have h := P.names
  simp only [snamesOK, Bool.and_eq_true, List.all_eq_true] at h
  intro s hs
  exact h.1.2 _ (List.mem_map.2 ⟨s, hs, rfl⟩)
theorem tabOK_len {t : List Int} (h : tabOK t = true) : t.length ≤ 12 := by simp [tabOK] at h; exact h.1
theorem NearP.b {m : Img} (P : NearP m) : ImgB m := by
  have h1 := P.refs; have h2 := P.data; have h3 := P.snaps
  refine ⟨by omega, ?_, by omega, by omega, fun s hs => ?_, fun s hs => ?_⟩
  · have := tabOK_len (P.tabs m.tab (List.mem_cons_self ..)).1; omega
  · have := sname_len (P.nameOK s hs); omega
  · have := tabOK_len (P.tabs s.tab (List.mem_cons_of_mem _ (List.mem_map.2 ⟨s, hs, rfl⟩))).1; omega
end Go.Proofs.YtdcgfapededocaaGreat



namespace Go.Proofs.YtdcgfapededocaaGreat
open Go
set_option maxRecDepth 100000
set_option maxHeartbeats 1000000
set_option linter.unusedSimpArgs false
set_option linter.unusedVariables false
/-! Numbers -/
theorem eqIntS_E (a b : List Int) (ha : a.length ≤ 1073741824) : E CX 101 [.sl 1 (a.map (.int .i64)), .sl 1 (b.map (.int .i64))] [] = some { val := .bool (decide (a = b)) } := by
  refine E_fin Tryz.f101 _ an101 rfl rfl rfl Tryz.func101 rfl (by kernel_rfl) ?_
  by_cases hl : a.length = b.length
  · simp [go_sem, hl]
    refine loop_list (fun X => fin CX _ _ X = _) a (fun n _ => True) (fun n (_ : Unit) => ⟨SS [(0, .sl 1 (a.map (.int .i64))), (1, .sl 1 (b.map (.int .i64))), (5, .int .i64 n)], HE⟩) (fun l n _ => if l = b.drop n then (.exit 0, ⟨SS [], HE⟩) else (.ret, ⟨SS [(4, .bool false)], HE⟩)) () trivial ?_ ?_ ?_ ?_ ?_
    · simp [go_sem]
    · intro n _ x t hn hx hd _
      have hn' : n < b.length := by omega
      obtain ⟨y, u, hy, hu, hu'⟩ := cut_at hn'
      have hx := hx hn
      by_cases hxy : x = y
      · simp [go_sem, hn, hn', hx, hy, hxy, hu, hu', wrap_id (n := (n : Int) + 1) (by omega)]
      · simp [go_sem, hn, hn', hx, hy, hxy, hu, hu']
    · intro _ _; simp [go_sem, hl]
    · intro _; simp [hl]
    · by_cases h : a = b <;> simp [go_sem, h]
  · have : a ≠ b := fun h => hl (by rw [h])
    have hl' : ¬ ((a.length : Int) = b.length) := by omega
    simp [go_sem, hl', this]
theorem markIntS_E (l : List Int) (k : Int) (h : 0 < k ∧ k + l.length ≤ 1099511627776) : E CX 134 [.ref [0] 0 l.length, .int .i64 k] [([0], rI l)] = some { val := .int .i64 (k + l.length), io := [rI (upI k l.length)] } := by
  refine E_fin Tryz.f134 _ an134 rfl rfl rfl Tryz.func134 rfl (by kernel_rfl) ?_
  simp [go_sem, rI]
  refine loop_list (fun X => fin CX _ _ X = _) l (fun n _ => True) (fun n (_ : Unit) => ⟨SS [(0, .ref [0] 0 l.length), (1, .int .i64 (k + n)), (5, .int .i64 n)], HS [([0], ⟨false, 3, 1, (upI k n ++ l.drop n).map (.int .i64), none⟩)]⟩) (fun _ n _ => (.exit 0, ⟨SS [(1, .int .i64 (k + l.length))], HS [([0], ⟨false, 3, 1, (upI k l.length).map (.int .i64), none⟩)]⟩)) () trivial ?_ ?_ ?_ ?_ ?_
  · simp [go_sem, upI]
  · intro n _ x t hn hx hd _
    have hs := at_set ((upI k n).map (AV.int .i64)) (t.map (.int .i64)) (.int .i64 x) (.int .i64 (k + n)) n (by simp [upI_length])
    have hd' : l.drop (n + 1) = t := by rw [← List.drop_drop, hd]; rfl
    simp [go_sem, hn, hd, hd', hs, upI_length, upI_succ, wrap_id (n := (n : Int) + 1) (by omega), wrap_id (n := k + ((n : Int) + 1)) (by omega), Int.add_assoc]
  · intro _ _; simp [go_sem, upI_length]
  · intro _; simp
  · simp [go_sem, upI_length]
theorem heldIntS_E (n : Nat) (k : Int) (h : 0 < k ∧ k + n ≤ 1099511627776) : E CX 138 [.sl 1 ((upI k n).map (.int .i64)), .int .i64 k] [] = some { val := .int .i64 (k + n) } := by
  refine E_fin Tryz.f138 _ an138 rfl rfl rfl Tryz.func138 rfl (by kernel_rfl) ?_
  simp [go_sem]
  refine loop_list (fun X => fin CX _ _ X = _) (upI k n) (fun n _ => True) (fun j (_ : Unit) => ⟨SS [(0, .sl 1 ((upI k n).map (.int .i64))), (1, .int .i64 (k + j)), (5, .int .i64 j)], HE⟩) (fun _ _ _ => (.exit 0, ⟨SS [(1, .int .i64 (k + n))], HE⟩)) () trivial ?_ ?_ ?_ ?_ ?_
  · simp [go_sem]
  · intro j _ x t hj hx hd _
    have hx := hx hj
    have hj' : j < n := by simpa [upI_length] using hj
    have hx' : x = k + j := by rw [← hx]; simp [upI]
    subst hx'
    simp [go_sem, hj, hx, hj', upI_length, wrap_id (n := (j : Int) + 1) (by omega), wrap_id (n := k + ((j : Int) + 1)) (by omega), Int.add_assoc]
  · intro _ _; simp [go_sem, upI_length]
  · intro _; simp
  · simp [go_sem, upI_length]
theorem mkTN_len (l : List TN) : ∀ k : Int, (mkTN k l).length = l.length := by
  induction l with
  | nil => intro k; rfl
  | cons x l ih => intro k; simp [mkTN, ih]
/-- Lengths that a machine's slices may have. -/
structure FitI (m : Img) : Prop where
  refs : m.refs.length ≤ top
  tab : m.tab.length ≤ top
  snaps : m.snaps.length ≤ top
  each : ∀ x ∈ m.snaps, x.name.length ≤ top ∧ x.tab.length ≤ top
  data : m.data.length ≤ top
end Go.Proofs.YtdcgfapededocaaGreat



namespace Go.Proofs.YtdcgfapededocaaGreat
open Go
set_option maxRecDepth 100000
set_option maxHeartbeats 1000000
set_option linter.unusedSimpArgs false
set_option linter.unusedVariables false
def tnH (x : Sht) : TN := (x.name, x.vals)
def mkSh (k : Int) (s : List Sht) : List Sht := (mkTN k (s.map tnH)).map fun x => ⟨x.1, x.2⟩
def szSh (s : List Sht) : Nat := szTN (s.map tnH)
theorem len_szSh (s : List Sht) : s.length ≤ szSh s := by
  induction s with
  | nil => exact Nat.le_refl _
  | cons x s ih => show s.length + 1 ≤ 1 + x.vals.length + szSh s; omega
theorem mkSh_cons (k : Int) (x : Sht) (s : List Sht) : mkSh k (x :: s) = ⟨mt k, upI (k + 1) x.vals.length⟩ :: mkSh (k + 1 + x.vals.length) s := rfl
theorem szSh_cons (x : Sht) (s : List Sht) : szSh (x :: s) = 1 + x.vals.length + szSh s := rfl
theorem mkSh_length (k : Int) (s : List Sht) : (mkSh k s).length = s.length := by simp [mkSh, mkTN_len]
theorem markShotS_nil (k : Int) : E CX 135 [.sl 2 [], .int .i64 k] [] = some { val := .int .i64 k } := by
  refine E_fin Tryz.f135 _ an135 rfl rfl rfl Tryz.func135 rfl (by kernel_rfl) ?_
  simp [go_sem]
  refine loop_for (fun X => fin CX _ _ X = _) ([] : List Unit) (fun n _ => True) (fun n (_ : Unit) => ⟨SS [(0, .sl 2 []), (1, .int .i64 k), (5, .int .i64 n)], HE⟩) (fun _ n _ => (.exit 0, ⟨SS [(1, .int .i64 k)], HE⟩)) () trivial ?_ ?_ ?_ ?_ ?_
  · simp [go_sem]
  · intro R n _ x t hn; simp at hn
  · intro _ _; simp [go_sem]
  · intro _; simp
  · simp [go_sem]
theorem eqShot_E (a b : Sht) (ha : a.vals.length ≤ 1073741824) : E CX 160 [eSht a, eSht b] [] = some { val := .bool (decide (a = b)) } := by
  have e := eqIntS_E a.vals b.vals ha
  obtain ⟨a0, a1⟩ := a
  obtain ⟨b0, b1⟩ := b
  simp only at e
  refine E_fin Tryz.f160 _ an160 rfl rfl rfl Tryz.func160 rfl (by kernel_rfl) ?_
  by_cases c0 : a0 = b0
  · by_cases c1 : a1 = b1
    · simp [c1] at e
      simp [go_sem, eSht, c0, c1, e]
    · simp [c1] at e
      simp [go_sem, eSht, c0, c1, e]
  · simp [go_sem, eSht, c0]
theorem eqShotS_E (a b : List Sht) (ha : a.length ≤ 1073741824) (ht : ∀ x ∈ a, x.vals.length ≤ 1073741824) : E CX 102 [.sl 2 (a.map eSht), .sl 2 (b.map eSht)] [] = some { val := .bool (decide (a = b)) } := by
  refine E_fin Tryz.f102 _ an102 rfl rfl rfl Tryz.func102 rfl (by kernel_rfl) ?_
  by_cases hl : a.length = b.length
  · simp [go_sem, hl]
    refine loop_list (fun X => fin CX _ _ X = _) a (fun n _ => True) (fun n (_ : Unit) => ⟨SS [(0, .sl 2 (a.map eSht)), (1, .sl 2 (b.map eSht)), (5, .int .i64 n)], HE⟩) (fun l n _ => if l = b.drop n then (.exit 0, ⟨SS [], HE⟩) else (.ret, ⟨SS [(4, .bool false)], HE⟩)) () trivial ?_ ?_ ?_ ?_ ?_
    · simp [go_sem]
    · intro n _ x t hn hx hd _
      have hn' : n < b.length := by omega
      obtain ⟨y, u, hy, hu, hu'⟩ := cut_at hn'
      have hx := hx hn
      have hE := eqShot_E x y (ht x (by rw [← hx]; exact List.getElem_mem hn))
      by_cases hxy : x = y
      · subst hxy
        simp only [eSht] at hE
        simp [go_sem, hn, hn', hx, hy, hu, hu', eSht, hE, wrap_id (n := (n : Int) + 1) (by omega)]
      · simp only [eSht] at hE
        simp [go_sem, hn, hn', hx, hy, hu, hu', eSht, hE, hxy]
    · intro _ _; simp [go_sem, hl]
    · intro _; simp [hl]
    · by_cases h : a = b <;> simp [go_sem, h]
  · have : a ≠ b := fun h => hl (by rw [h])
    have hl' : ¬ ((a.length : Int) = b.length) := by omega
    simp [go_sem, hl', this]
theorem heldShotS_E (s : List Sht) (k : Int) (h : 0 < k ∧ k + szSh s ≤ 1099511627776) : E CX 139 [.sl 2 ((mkSh k s).map eSht), .int .i64 k] [] = some { val := .int .i64 (k + szSh s) } := by
  have hls := len_szSh s
  refine E_fin Tryz.f139 _ an139 rfl rfl rfl Tryz.func139 rfl (by kernel_rfl) ?_
  simp [go_sem]
  refine loop_list (fun X => fin CX _ _ X = _) s (fun n (j : Int) => 0 < j ∧ j + szSh (s.drop n) = k + szSh s ∧ (mkSh k s).drop n = mkSh j (s.drop n)) (fun n j => ⟨SS [(0, .sl 2 ((mkSh k s).map eSht)), (1, .int .i64 j), (5, .int .i64 n)], HE⟩) (fun _ _ _ => (.exit 0, ⟨SS [(1, .int .i64 (k + szSh s))], HE⟩)) k ⟨h.1, by simp, by simp⟩ ?_ ?_ ?_ ?_ ?_
  · simp [go_sem]
  · intro n j x t hn hx hd hI
    obtain ⟨i1, i2, i3⟩ := hI
    rw [hd] at i2 i3
    rw [szSh_cons] at i2
    rw [mkSh_cons] at i3
    have hm : n < (mkSh k s).length := by rw [mkSh_length]; exact hn
    have hdd := List.drop_eq_getElem_cons hm
    rw [i3] at hdd
    injection hdd with g1 g2
    have e1 := markText_E j (by omega)
    have e2 := heldIntS_E x.vals.length (j + 1) (by push_cast at i2; omega)
    have e3 : (mkSh k s)[n] = ⟨mt j, upI (j + 1) x.vals.length⟩ := g1.symm
    have hdt : s.drop (n + 1) = t := by rw [← List.drop_drop, hd]; rfl
    simp [go_sem, hn, hm, mkSh_length, e3, eSht, e1, e2, wrap_id (n := (n : Int) + 1) (by omega), wrap_id (n := j + 1) (by omega), show ¬ j + 1 + (x.vals.length : Int) < 0 by omega]
    refine ⟨_, ⟨?_, ?_, ?_⟩, rfl⟩
    · omega
    · rw [hdt]; push_cast at i2; omega
    · rw [hdt]; exact g2.symm
  · intro j hI
    obtain ⟨_, i2, _⟩ := hI
    simp [szSh, szTN] at i2
    simp [go_sem, mkSh_length, i2, szSh]
  · intro _; simp
  · simp [go_sem, mkSh_length]
structure FitG (g : Gst) : Prop where
  vals : g.vals.length ≤ top
  shots : g.shots.length ≤ top
  each : ∀ x ∈ g.shots, x.name.length ≤ top ∧ x.vals.length ≤ top
/-- Bounds of what is counted small. -/
structure GstB (g : Gst) : Prop where
  vals : g.vals.length ≤ 1073741824
  shots : g.shots.length ≤ 1073741824
  names : ∀ x ∈ g.shots, x.name.length ≤ 1099511627776
  tabs : ∀ x ∈ g.shots, x.vals.length ≤ 1073741824
theorem eqGuest_E (a b : Gst) (B : GstB a) : E CX 44 [eGst a, eGst b] [] = some { val := .bool (decide (a = b)) } := by
  have e1 := eqIntS_E a.vals b.vals B.vals
  have e2 := eqShotS_E a.shots b.shots B.shots B.tabs
  obtain ⟨v, s⟩ := a
  obtain ⟨v', s'⟩ := b
  simp only at e1 e2
  refine E_fin Tryz.f44 _ an44 rfl rfl rfl Tryz.func44 rfl (by kernel_rfl) ?_
  by_cases c1 : v = v'
  · by_cases c2 : s = s' <;> simp [c1, c2] at e1 e2 <;> simp [go_sem, eGst, c1, c2, e1, e2]
  · simp [c1] at e1; simp [go_sem, eGst, c1, e1]
end Go.Proofs.YtdcgfapededocaaGreat



namespace Go.Proofs.YtdcgfapededocaaGreat
open Go
set_option maxRecDepth 100000
set_option maxHeartbeats 1000000
set_option linter.unusedSimpArgs false
set_option linter.unusedVariables false
structure Config where
  fail : Int
  dead : Int
  delay : Int
  drift : Int
  deriving Inhabited, DecidableEq
def eConfig (x : Config) : AV := .agg [.int .i64 (x.fail), .int .i64 (x.dead), .int .i64 (x.delay), .int .i64 (x.drift)]
theorem sharesL_eConfig (l : List Config) : AV.sharesL (l.map eConfig) = false := sharesL_map (fun _ => by simp [eConfig, go_sem]) l
theorem sharesL_repeConfig (n : Nat) (x : Config) : AV.sharesL (List.replicate n (eConfig x)) = false := sharesL_rep _ (by simp [eConfig, go_sem]) n
attribute [go_sem] sharesL_eConfig sharesL_repeConfig
theorem eqConfig_E (a b : Config) : E CX 42 [eConfig a, eConfig b] [] = some { val := .bool (decide (a = b)) } := by
  refine E_fin Tryz.f42 _ an42 rfl rfl rfl Tryz.func42 rfl (by kernel_rfl) ?_
  obtain ⟨a0, a1, a2, a3⟩ := a
  obtain ⟨b0, b1, b2, b3⟩ := b
  by_cases c0 : a0 = b0
  · by_cases c1 : a1 = b1
    · by_cases c2 : a2 = b2
      · by_cases c3 : a3 = b3
        · simp [go_sem, eConfig, c0, c1, c2, c3]
        · simp [go_sem, eConfig, c0, c1, c2, c3]
      · simp [go_sem, eConfig, c0, c1, c2]
    · simp [go_sem, eConfig, c0, c1]
  · simp [go_sem, eConfig, c0]
theorem toConfig_E (a : Config) : E CX 17 [eConfig a] [] = some { val := eConfig a } := by
  refine E_fin Tryz.f17 _ an17 rfl rfl rfl Tryz.func17 rfl (by kernel_rfl) ?_
  simp [go_sem, eConfig]
structure Host where
  state : Int
  gen : Int
  renewed : Int
  deriving Inhabited, DecidableEq
def eHost (x : Host) : AV := .agg [.int .i64 (x.state), .int .i64 (x.gen), .int .i64 (x.renewed)]
theorem sharesL_eHost (l : List Host) : AV.sharesL (l.map eHost) = false := sharesL_map (fun _ => by simp [eHost, go_sem]) l
theorem sharesL_repeHost (n : Nat) (x : Host) : AV.sharesL (List.replicate n (eHost x)) = false := sharesL_rep _ (by simp [eHost, go_sem]) n
attribute [go_sem] sharesL_eHost sharesL_repeHost
theorem eqHost_E (a b : Host) : E CX 100 [eHost a, eHost b] [] = some { val := .bool (decide (a = b)) } := by
  refine E_fin Tryz.f100 _ an100 rfl rfl rfl Tryz.func100 rfl (by kernel_rfl) ?_
  obtain ⟨a0, a1, a2⟩ := a
  obtain ⟨b0, b1, b2⟩ := b
  by_cases c0 : a0 = b0
  · by_cases c1 : a1 = b1
    · by_cases c2 : a2 = b2
      · simp [go_sem, eHost, c0, c1, c2]
      · simp [go_sem, eHost, c0, c1, c2]
    · simp [go_sem, eHost, c0, c1]
  · simp [go_sem, eHost, c0]
theorem eqHostS_E (a b : List Host) (ha : a.length ≤ 1073741824) : E CX 43 [.sl 3 (a.map eHost), .sl 3 (b.map eHost)] [] = some { val := .bool (decide (a = b)) } := by
  refine E_fin Tryz.f43 _ an43 rfl rfl rfl Tryz.func43 rfl (by kernel_rfl) ?_
  by_cases hl : a.length = b.length
  · simp [go_sem, hl]
    refine loop_list (fun X => fin CX _ _ X = _) a (fun n _ => True) (fun n (_ : Unit) => ⟨SS [(0, .sl 3 (a.map eHost)), (1, .sl 3 (b.map eHost)), (5, .int .i64 n)], HE⟩) (fun l n _ => if l = b.drop n then (.exit 0, ⟨SS [], HE⟩) else (.ret, ⟨SS [(4, .bool false)], HE⟩)) () trivial ?_ ?_ ?_ ?_ ?_
    · simp [go_sem]
    · intro n _ x t hn hx hd _
      have hn' : n < b.length := by omega
      obtain ⟨y, u, hy, hu, hu'⟩ := cut_at hn'
      have hx := hx hn
      by_cases hxy : x = y
      · subst hxy
        have hE := eqHost_E x x
        simp only [eHost] at hE
        simp [go_sem, hn, hn', hx, hy, hu, hu', eHost, hE, wrap_id (n := (n : Int) + 1) (by omega)]
      · have hE := eqHost_E x y
        simp only [eHost] at hE
        simp [go_sem, hn, hn', hx, hy, hu, hu', eHost, hE, hxy]
    · intro _ _; simp [go_sem, hl]
    · intro _; simp [hl]
    · by_cases h : a = b <;> simp [go_sem, h]
  · have : a ≠ b := fun h => hl (by rw [h])
    have hl' : ¬ ((a.length : Int) = b.length) := by omega
    simp [go_sem, hl', this]
structure Req where
  kind : Int
  g : Int
  value : Int
  name : List UInt8
  deriving Inhabited, DecidableEq
def eReq (x : Req) : AV := .agg [.int .i64 (x.kind), .int .i64 (x.g), .int .i64 (x.value), .str (x.name)]
theorem sharesL_eReq (l : List Req) : AV.sharesL (l.map eReq) = false := sharesL_map (fun _ => by simp [eReq, go_sem]) l
theorem sharesL_repeReq (n : Nat) (x : Req) : AV.sharesL (List.replicate n (eReq x)) = false := sharesL_rep _ (by simp [eReq, go_sem]) n
attribute [go_sem] sharesL_eReq sharesL_repeReq
theorem eqReq_E (a b : Req) : E CX 45 [eReq a, eReq b] [] = some { val := .bool (decide (a = b)) } := by
  refine E_fin Tryz.f45 _ an45 rfl rfl rfl Tryz.func45 rfl (by kernel_rfl) ?_
  obtain ⟨a0, a1, a2, a3⟩ := a
  obtain ⟨b0, b1, b2, b3⟩ := b
  by_cases c0 : a0 = b0
  · by_cases c1 : a1 = b1
    · by_cases c2 : a2 = b2
      · by_cases c3 : a3 = b3
        · simp [go_sem, eReq, c0, c1, c2, c3]
        · simp [go_sem, eReq, c0, c1, c2, c3]
      · simp [go_sem, eReq, c0, c1, c2]
    · simp [go_sem, eReq, c0, c1]
  · simp [go_sem, eReq, c0]
/-! Worlds. -/
structure Wld where
  disk : Disk
  cfg : Config
  hosts : List Host
  time : Int
  guest : Gst
  may : Req
  agree : Bool
  deriving Inhabited, DecidableEq
def eWld (w : Wld) : AV := .agg [.sl 1 (w.disk.ss.map .str), .sl 3 (w.disk.ps.map eIo), .int .i64 w.cfg.fail, .int .i64 w.cfg.dead, .int .i64 w.cfg.delay, .int .i64 w.cfg.drift, .sl 3 (w.hosts.map eHost), .int .i64 w.time, .sl 1 (w.guest.vals.map (.int .i64)), .sl 2 (w.guest.shots.map eSht), .int .i64 w.may.kind, .int .i64 w.may.g, .int .i64 w.may.value, .str w.may.name, .bool w.agree]
structure FitW (w : Wld) : Prop where
  disk : Fits w.disk
  hosts : w.hosts.length ≤ top
  guest : FitG w.guest
  name : w.may.name.length ≤ top
structure WldB (w : Wld) : Prop where
  ss : w.disk.ss.length ≤ 1048576
  ps : w.disk.ps.length ≤ 1048576
  hosts : w.hosts.length ≤ 1048576
  guest : GstB w.guest
  name : w.may.name.length ≤ 1048576
theorem eqWorld_E (w : Wld) (B : WldB w) : E CX 11 [eWld w, eWld w] [] = some { val := .bool true } := by
  have e1 := eqDisk_E w.disk w.disk (by have := B.ss; omega) (by have := B.ps; omega)
  have e2 := eqConfig_E w.cfg w.cfg
  have e3 := eqHostS_E w.hosts w.hosts (by have := B.hosts; omega)
  have e4 := eqGuest_E w.guest w.guest B.guest
  have e5 := eqReq_E w.may w.may
  simp only [eDisk, eConfig, eGst, eReq] at e1 e2 e3 e4 e5
  simp at e1 e2 e3 e4 e5
  refine E_fin Tryz.f11 _ an11 rfl rfl rfl Tryz.func11 rfl (by kernel_rfl) ?_
  simp [go_sem, eWld, e1, e2, e3, e4, e5]
end Go.Proofs.YtdcgfapededocaaGreat



namespace Go.Proofs.YtdcgfapededocaaGreat
open Go
set_option maxRecDepth 100000
set_option maxHeartbeats 2000000
set_option linter.unusedSimpArgs false
set_option linter.unusedVariables false
def mkHost (k : Int) (n : Nat) : List Host := (List.range n).map fun i : Nat => ⟨k + 3 * i + 0, k + 3 * i + 1, k + 3 * i + 2⟩
theorem mkHost_succ (k : Int) (n : Nat) : mkHost k (n + 1) = mkHost k n ++ [⟨k + 3 * n + 0, k + 3 * n + 1, k + 3 * n + 2⟩] := by simp [mkHost, List.range_succ]
theorem mkHost_length (k : Int) (n : Nat) : (mkHost k n).length = n := by simp [mkHost]
theorem markHostS_E (l tl : List Host) (k : Int) (h : 0 < k ∧ k + 3 * l.length ≤ 1099511627776) : E CX 61 [.ref [0] 0 l.length, .int .i64 k] [([0], ⟨false, 72, 3, (l ++ tl).map eHost, none⟩)] = some { val := .int .i64 (k + 3 * l.length), io := [⟨false, 72, 3, (mkHost k l.length ++ tl).map eHost, none⟩] } := by
  refine E_fin Tryz.f61 _ an61 rfl rfl rfl Tryz.func61 rfl (by kernel_rfl) ?_
  simp [go_sem]
  refine loop_list (fun X => fin CX _ _ X = _) l (fun n _ => True) (fun n (_ : Unit) => ⟨SS [(0, .ref [0] 0 l.length), (1, .int .i64 (k + 3 * n)), (5, .int .i64 n)], HS [([0], ⟨false, 72, 3, (mkHost k n).map eHost ++ ((l.drop n).map eHost ++ tl.map eHost), none⟩)]⟩) (fun _ n _ => (.exit 0, ⟨SS [(1, .int .i64 (k + 3 * l.length))], HS [([0], ⟨false, 72, 3, (mkHost k l.length).map eHost ++ tl.map eHost, none⟩)]⟩)) () trivial ?_ ?_ ?_ ?_ ?_
  · simp [go_sem, mkHost]
  · intro n _ x t hn hx hd _
    have hs : ∀ (v w : AV), ((mkHost k n).map eHost ++ v :: (t.map eHost ++ tl.map eHost)).set n w = (mkHost k n).map eHost ++ w :: (t.map eHost ++ tl.map eHost) := fun v w => mid_set _ _ _ _ n (by simp [mkHost_length])
    have hg : ∀ (v : AV), ((mkHost k n).map eHost ++ v :: (t.map eHost ++ tl.map eHost))[n]? = some v := fun v => by
      rw [List.getElem?_append_right (by simp [mkHost_length])]; simp [mkHost_length]
    have hd' : l.drop (n + 1) = t := by rw [← List.drop_drop, hd]; rfl
    have hg' : ∀ (v : AV) (h : n < ((mkHost k n).map eHost ++ v :: (t.map eHost ++ tl.map eHost)).length), ((mkHost k n).map eHost ++ v :: (t.map eHost ++ tl.map eHost))[n]'h = v := fun v h => by
      have := hg v
      rw [List.getElem?_eq_getElem h] at this
      exact Option.some.inj this
    simp [go_sem, hn, hd, hd', eHost, hs, hg, hg', mkHost_length, mkHost_succ, go_sem, wrap_id (n := (n : Int) + 1) (by omega), wrap_id (n := k + (3 * (n : Int) + 1)) (by omega), wrap_id (n := k + (3 * (n : Int) + 2)) (by omega), wrap_id (n := k + (3 * (n : Int) + 3)) (by omega), Int.add_assoc, Int.mul_add]
  · intro _ _; simp [go_sem, mkHost_length]
  · intro _; simp
  · simp [go_sem, mkHost_length]
theorem markHostS_nil (k : Int) : E CX 61 [.sl 3 [], .int .i64 k] [] = some { val := .int .i64 k } := by
  refine E_fin Tryz.f61 _ an61 rfl rfl rfl Tryz.func61 rfl (by kernel_rfl) ?_
  simp [go_sem]
  refine loop_for (fun X => fin CX _ _ X = _) ([] : List Unit) (fun n _ => True) (fun n (_ : Unit) => ⟨SS [(0, .sl 3 []), (1, .int .i64 k), (5, .int .i64 n)], HE⟩) (fun _ n _ => (.exit 0, ⟨SS [(1, .int .i64 k)], HE⟩)) () trivial ?_ ?_ ?_ ?_ ?_
  · simp [go_sem]
  · intro R n _ x t hn; simp at hn
  · intro _ _; simp [go_sem]
  · intro _; simp
  · simp [go_sem]
theorem heldHostS_E (n : Nat) (k : Int) (h : 0 < k ∧ k + 3 * n ≤ 1099511627776) : E CX 64 [.sl 3 ((mkHost k n).map eHost), .int .i64 k] [] = some { val := .int .i64 (k + 3 * n) } := by
  refine E_fin Tryz.f64 _ an64 rfl rfl rfl Tryz.func64 rfl (by kernel_rfl) ?_
  simp [go_sem]
  refine loop_list (fun X => fin CX _ _ X = _) (mkHost k n) (fun n _ => True) (fun j (_ : Unit) => ⟨SS [(0, .sl 3 ((mkHost k n).map eHost)), (1, .int .i64 (k + 3 * j)), (5, .int .i64 j)], HE⟩) (fun _ _ _ => (.exit 0, ⟨SS [(1, .int .i64 (k + 3 * n))], HE⟩)) () trivial ?_ ?_ ?_ ?_ ?_
  · simp [go_sem]
  · intro j _ x t hj hx hd _
    have hx := hx hj
    have hj' : j < n := by simpa [mkHost_length] using hj
    have hx' : x = ⟨k + 3 * j + 0, k + 3 * j + 1, k + 3 * j + 2⟩ := by rw [← hx]; simp [mkHost]
    subst hx'
    simp [go_sem, hj, hx, hj', eHost, mkHost_length, go_sem, wrap_id (n := (j : Int) + 1) (by omega), wrap_id (n := k + (3 * (j : Int) + 1)) (by omega), wrap_id (n := k + (3 * (j : Int) + 2)) (by omega), wrap_id (n := k + (3 * (j : Int) + 3)) (by omega), Int.add_assoc, Int.mul_add]
  · intro _ _; simp [go_sem, mkHost_length]
  · intro _; simp
  · simp [go_sem, mkHost_length]
theorem markIntS_nil (k : Int) : E CX 134 [.sl 1 [], .int .i64 k] [] = some { val := .int .i64 k } := by
  refine E_fin Tryz.f134 _ an134 rfl rfl rfl Tryz.func134 rfl (by kernel_rfl) ?_
  simp [go_sem]
  refine loop_for (fun X => fin CX _ _ X = _) ([] : List Unit) (fun n _ => True) (fun n (_ : Unit) => ⟨SS [(0, .sl 1 []), (1, .int .i64 k), (5, .int .i64 n)], HE⟩) (fun _ n _ => (.exit 0, ⟨SS [(1, .int .i64 k)], HE⟩)) () trivial ?_ ?_ ?_ ?_ ?_
  · simp [go_sem]
  · intro R n _ x t hn; simp at hn
  · intro _ _; simp [go_sem]
  · intro _; simp
  · simp [go_sem]
theorem heldShotS_nil (k : Int) (h : 0 < k ∧ k ≤ 1099511627776) : E CX 139 [.sl 2 [], .int .i64 k] [] = some { val := .int .i64 k } := by
  have := heldShotS_E [] k (by simp [szSh, szTN]; omega)
  simpa [mkSh, mkTN, szSh, szTN] using this
theorem markGuest_nil (k : Int) : E CX 62 [.agg [.sl 1 [], .sl 2 []], .int .i64 k] [] = some { val := .int .i64 k } := by
  have e1 := markIntS_nil k
  have e2 := markShotS_nil k
  refine E_fin Tryz.f62 _ an62 rfl rfl rfl Tryz.func62 rfl (by kernel_rfl) ?_
  simp [go_sem, e1, e2]
theorem markGuest_none (v : List Int) (k : Int) (h : 0 < k ∧ k + v.length ≤ 1099511627776) : E CX 62 [.agg [.ref [0, 0] 0 v.length, .sl 2 []], .int .i64 k] [([0, 0], rI v)] = some { val := .int .i64 (k + v.length), io := [rI (upI k v.length)] } := by
  have e1 := markIntS_E v k h
  have e2 := markShotS_nil (k + v.length)
  simp [rI] at e1
  refine E_fin Tryz.f62 _ an62 rfl rfl rfl Tryz.func62 rfl (by kernel_rfl) ?_
  simp [go_sem, e1, e2, rI]
theorem heldGuest_none (n : Nat) (k : Int) (h : 0 < k ∧ k + n ≤ 1099511627776) : E CX 65 [.agg [.sl 1 ((upI k n).map (.int .i64)), .sl 2 []], .int .i64 k] [] = some { val := .int .i64 (k + n) } := by
  have e1 := heldIntS_E n k h
  have e2 := heldShotS_nil (k + n) (by omega)
  refine E_fin Tryz.f65 _ an65 rfl rfl rfl Tryz.func65 rfl (by kernel_rfl) ?_
  simp [go_sem, e1, e2, show ¬ k + (n : Int) < 0 by omega]
def szWn (ss ps ho va : Nat) : Int := ss + 3 * ps + 3 * ho + va
theorem markWorld_none (w : Wld) (hs : w.guest.shots = []) (tl : List Io) (h : 1 + szWn w.disk.ss.length w.disk.ps.length w.hosts.length w.guest.vals.length ≤ 1099511627776) :
    E CX 19 [.agg [.ref [0, 0] 0 w.disk.ss.length, .ref [0, 1] 0 w.disk.ps.length, .int .i64 w.cfg.fail, .int .i64 w.cfg.dead, .int .i64 w.cfg.delay, .int .i64 w.cfg.drift, .ref [0, 6] 0 w.hosts.length, .int .i64 w.time, .ref [0, 8] 0 w.guest.vals.length, .sl 2 [], .int .i64 w.may.kind, .int .i64 w.may.g, .int .i64 w.may.value, .str w.may.name, .bool w.agree], .int .i64 1] [([0, 0], ⟨false, 9, 1, w.disk.ss.map .str, none⟩), ([0, 1], ⟨false, 105, 3, (w.disk.ps ++ tl).map eIo, none⟩), ([0, 6], ⟨false, 72, 3, w.hosts.map eHost, none⟩), ([0, 8], rI w.guest.vals)] =
      some { val := .int .i64 (1 + szWn w.disk.ss.length w.disk.ps.length w.hosts.length w.guest.vals.length), io := [⟨false, 9, 1, (mtL 1 w.disk.ss.length).map .str, none⟩, ⟨false, 105, 3, (mkIo (1 + w.disk.ss.length) w.disk.ps.length ++ tl).map eIo, none⟩, ⟨false, 72, 3, (mkHost (1 + w.disk.ss.length + 3 * w.disk.ps.length) w.hosts.length).map eHost, none⟩, rI (upI (1 + w.disk.ss.length + 3 * w.disk.ps.length + 3 * w.hosts.length) w.guest.vals.length)] } := by
  unfold szWn at h ⊢
  have e1 := markDisk_E w.disk.ss w.disk.ps tl 1 (by omega)
  have e2 := markHostS_E w.hosts [] (1 + w.disk.ss.length + 3 * w.disk.ps.length) (by omega)
  have e3 := markGuest_none w.guest.vals (1 + w.disk.ss.length + 3 * w.disk.ps.length + 3 * w.hosts.length) (by omega)
  simp only [rI, List.append_nil, List.map_append] at e1 e2 e3
  refine E_fin Tryz.f19 _ an19 rfl rfl rfl Tryz.func19 rfl (by kernel_rfl) ?_
  simp [go_sem, e1, e2, e3, rI]
  omega
theorem heldWorld_none (a b c d : Nat) (cf : Config) (T : Int) (q : Req) (g : Bool) (h : 1 + szWn a b c d ≤ 1099511627776) :
    E CX 20 [eWld ⟨⟨mtL 1 a, mkIo (1 + a) b⟩, cf, mkHost (1 + a + 3 * b) c, T, ⟨upI (1 + a + 3 * b + 3 * c) d, []⟩, q, g⟩, .int .i64 1] [] = some { val := .int .i64 (1 + szWn a b c d) } := by
  unfold szWn at h ⊢
  have e1 := heldDisk_E a b 1 (by omega)
  have e2 := heldHostS_E c (1 + a + 3 * b) (by omega)
  have e3 := heldGuest_none d (1 + a + 3 * b + 3 * c) (by omega)
  simp only [eDisk] at e1
  refine E_fin Tryz.f20 _ an20 rfl rfl rfl Tryz.func20 rfl (by kernel_rfl) ?_
  simp [go_sem, eWld, e1, e2, e3, show ¬ 1 + (a : Int) + 3 * b < 0 by omega, show ¬ 1 + (a : Int) + 3 * b + 3 * c < 0 by omega, show ¬ 1 + (a : Int) + 3 * b + 3 * c + d < 0 by omega]
  omega
theorem markWorld_nil (f de dl dr T k1 k2 k3 : Int) (nm : Tx) (b : Bool) : E CX 19 [.agg [.sl 1 [], .sl 3 [], .int .i64 f, .int .i64 de, .int .i64 dl, .int .i64 dr, .sl 3 [], .int .i64 T, .sl 1 [], .sl 2 [], .int .i64 k1, .int .i64 k2, .int .i64 k3, .str nm, .bool b], .int .i64 1] [] = some { val := .int .i64 1 } := by
  have e1 := markDisk_nil 1
  have e2 := markHostS_nil 1
  have e3 := markGuest_nil 1
  refine E_fin Tryz.f19 _ an19 rfl rfl rfl Tryz.func19 rfl (by kernel_rfl) ?_
  simp [go_sem, e1, e2, e3]
end Go.Proofs.YtdcgfapededocaaGreat



namespace Go.Proofs.YtdcgfapededocaaGreat
open Go
set_option maxRecDepth 100000
set_option linter.unusedSimpArgs false
set_option linter.unusedVariables false
theorem sumOf_E (t : Tx) (ht : t.length ≤ 1000000) : E CX 236 [.str t] [] = some { val := .int .i64 (sumF t 1 0) } := by
  refine E_fin Tryz.f236 _ an236 rfl rfl rfl Tryz.func236 rfl (by kernel_rfl) ?_
  simp [go_sem]
  refine loop_for (fun X => fin CX _ _ X = _) t (fun n (a : Int) => 0 ≤ a ∧ a < 251) (fun n a => ⟨SS [(0, .str t), (3, .int .i64 a), (6, .int .i64 t.length), (7, .int .i64 n)], HE⟩) (fun r n a => (.exit 0, ⟨SS [(3, .int .i64 (sumF r (n + 1) a))], HE⟩)) 0 (by omega) ?_ ?_ ?_ ?_ ?_
  · simp [go_sem]
  · intro R n a b r hn hx hd hI hR
    have hx := hx hn
    have hb := b.toNat_lt
    have m1 : 0 ≤ ((n : Int) + 1) * ((b.toNat : Int) + 1) := Int.mul_nonneg (by omega) (by omega)
    have m2 : ((n : Int) + 1) * ((b.toNat : Int) + 1) ≤ 1000001 * 257 := Int.mul_le_mul (by omega) (by omega) (by omega) (by omega)
    have hp : ((n : Int) + 1) * ((b.toNat : Int) + 1) = (n : Int) * b.toNat + n + b.toNat + 1 := by rw [Int.add_mul, Int.mul_add]; omega
    have := hR ((a + ((n : Int) + 1) * ((b.toNat : Int) + 1)).tmod 251) (by rw [Int.tmod_eq_emod_of_nonneg (by omega)]; omega) (by simp [sumF])
    simp [go_sem] at this
    simp [go_sem, hn, hx, wrap_byte, wrap_id (n := (n : Int) + 1) (by omega), wrap_id (n := (b.toNat : Int) + 1) (by omega), wrap_id (n := ((n : Int) + 1) * ((b.toNat : Int) + 1)) (by omega), wrap_id (n := a + ((n : Int) + 1) * ((b.toNat : Int) + 1)) (by omega)]
    exact this
  · intro _ _; simp [go_sem, sumF]
  · intro _; simp
  · simp [go_sem]
theorem fd (n : Int) : n.fdiv 256 = n / 256 ∧ n.fdiv 65536 = n / 65536 ∧ n.fdiv 16777216 = n / 16777216 :=
  ⟨Int.fdiv_eq_ediv_of_nonneg _ (by omega), Int.fdiv_eq_ediv_of_nonneg _ (by omega), Int.fdiv_eq_ediv_of_nonneg _ (by omega)⟩
theorem pack_E (l : List Int) (hl : l.length ≤ 1000) : E CX 235 [.sl 1 (l.map (.int .i64))] [] = some { val := .str (packF l) } := by
  refine E_fin Tryz.f235 _ an235 rfl rfl rfl Tryz.func235 rfl (by kernel_rfl) ?_
  simp [go_sem]
  refine loop_for (fun X => fin CX _ _ X = _) l (fun n (a : Tx) => a.length = 4 * n) (fun n a => ⟨SS [(3, .ref [6] 0 a.length), (7, .sl 1 (l.map (.int .i64))), (8, .int .i64 l.length), (9, .int .i64 n)], HS [([6], ⟨false, 5, 1, a.map eByte, none⟩)]⟩)
    (fun r n a => (.exit 0, ⟨SS [(3, .ref [6] 0 (a ++ packF r).length)], HS [([6], ⟨false, 5, 1, (a ++ packF r).map eByte, none⟩)]⟩)) [] rfl ?_ ?_ ?_ ?_ ?_
  · simp [go_sem]
  · intro R n a x r hn hx hd hI hR
    have hx := hx hn
    have := hR (a ++ four x) (by simp [four, hI]; omega) (by simp [packF])
    simp [go_sem, four, eByte] at this
    simp [go_sem, hn, hx, wrap_u8, (fd x).1, (fd x).2.1, (fd x).2.2, show a.length + 4 ≤ 1073741824 by omega, wrap_id (n := (n : Int) + 1) (by omega)]
    exact this
  · intro a hI; simp [go_sem, packF]
  · intro _; simp
  · have := packF_length l
    simp [go_sem, bytesOf_map, show (packF l).length ≤ 1099511627776 by omega]
theorem seal_E (kind : Int) (l : List Int) (hl : l.length ≤ 1000) : E CX 203 [.int .i64 kind, .sl 1 (l.map (.int .i64))] [] = some { val := .str (sealF kind l) } := by
  refine E_fin Tryz.f203 _ an203 rfl rfl rfl Tryz.func203 rfl (by kernel_rfl) ?_
  have e1 := pack_E l hl
  have hp := packF_length l
  have e2 := sumOf_E ([byteOf kind, byteOf l.length] ++ packF l) (by simp; omega)
  simp at e2
  simp [go_sem, e1, e2, sealF, show 2 + (packF l).length ≤ 4611686018427387904 by omega, show (packF l).length + 1 + 1 + 2 ≤ 4611686018427387904 by omega, show 2 + (2 + (packF l).length) ≤ 4611686018427387904 by omega, show 2 + 2 + (packF l).length ≤ 4611686018427387904 by omega, show 4 + (packF l).length ≤ 4611686018427387904 by omega]
end Go.Proofs.YtdcgfapededocaaGreat



namespace Go.Proofs.YtdcgfapededocaaGreat
open Go
set_option maxRecDepth 100000
set_option linter.unusedSimpArgs false
set_option linter.unusedVariables false
def t0 (t : Tx) : Int := ((t.getD 0 0).toNat : Int)
end Go.Proofs.YtdcgfapededocaaGreat



namespace Go.Proofs.YtdcgfapededocaaGreat
open Go
set_option maxRecDepth 100000
set_option linter.unusedSimpArgs false
set_option linter.unusedVariables false
theorem l02Sum_E (t : Tx) (ht : t.length ≤ 1000000) : E CX 198 [.str t] [] = some { val := .int .i64 (sumF t 1 0) } := by
  refine E_fin Tryz.f198 _ an198 rfl rfl rfl Tryz.func198 rfl (by kernel_rfl) ?_
  simp [go_sem]
  refine loop_for (fun X => fin CX _ _ X = _) t (fun n (a : Int) => 0 ≤ a ∧ a < 251) (fun n a => ⟨SS [(0, .str t), (3, .int .i64 a), (4, .int .i64 n)], HE⟩) (fun r n a => (.exit 0, ⟨SS [(3, .int .i64 (sumF r (n + 1) a))], HE⟩)) 0 (by omega) ?_ ?_ ?_ ?_ ?_
  · simp [go_sem]
  · intro R n a b r hn hx hd hI hR
    have hx := hx hn
    have hb := b.toNat_lt
    have m1 : 0 ≤ ((n : Int) + 1) * ((b.toNat : Int) + 1) := Int.mul_nonneg (by omega) (by omega)
    have m2 : ((n : Int) + 1) * ((b.toNat : Int) + 1) ≤ 1000001 * 257 := Int.mul_le_mul (by omega) (by omega) (by omega) (by omega)
    have := hR ((a + ((n : Int) + 1) * ((b.toNat : Int) + 1)).tmod 251) (by rw [Int.tmod_eq_emod_of_nonneg (by omega)]; omega) (by simp [sumF])
    simp [go_sem] at this
    simp [go_sem, hn, hx, wrap_id (n := (n : Int) + 1) (by omega), wrap_id (n := (b.toNat : Int) + 1) (by omega), wrap_id (n := ((n : Int) + 1) * ((b.toNat : Int) + 1)) (by omega), wrap_id (n := a + ((n : Int) + 1) * ((b.toNat : Int) + 1)) (by omega)]
    exact this
  · intro _ _; simp [go_sem, sumF]
  · intro _; simp
  · simp [go_sem]
/-- A number, some bytes shifted out. -/
def shN (x : Int) : Nat → Int
  | 0 => x
  | 1 => x / 256
  | 2 => x / 65536
  | 3 => x / 16777216
  | _ => x / 4294967296
theorem l02Pack_E (l : List Int) (hl : l.length ≤ 1000) : E CX 197 [.sl 1 (l.map (.int .i64))] [] = some { val := .str (packF l) } := by
  refine E_fin Tryz.f197 _ an197 rfl rfl rfl Tryz.func197 rfl (by kernel_rfl) ?_
  simp [go_sem]
  refine loop_for (fun X => fin CX _ _ X = _) l (fun n (a : Tx) => a.length = 4 * n) (fun n a => ⟨SS [(0, .sl 1 (l.map (.int .i64))), (3, .ref [7] 0 a.length), (4, .int .i64 n)], HS [([7], ⟨false, 5, 1, a.map eByte, none⟩)]⟩)
    (fun r n a => (.exit 0, ⟨SS [(3, .ref [7] 0 (a ++ packF r).length)], HS [([7], ⟨false, 5, 1, (a ++ packF r).map eByte, none⟩)]⟩)) [] rfl ?_ ?_ ?_ ?_ ?_
  · simp [go_sem]
  · intro R n a x r hn hx hd hI hR
    have hx := hx hn
    have := hR (a ++ four x) (by simp [four, hI]; omega) (by simp [packF])
    simp [go_sem, four, eByte] at this
    simp [go_sem, hn, hx]
    refine loop_at (fun X => Back (keepSt an197 0) _ R X) (fun k : Nat => k ≤ 4) (fun k => ⟨SS [(0, .sl 1 (l.map (.int .i64))), (3, .ref [7] 0 (a ++ (four x).take k).length), (4, .int .i64 n), (5, .int .i64 (shN x k)), (6, .int .i64 k)], HS [([7], ⟨false, 5, 1, (a ++ (four x).take k).map eByte, none⟩)]⟩)
      (fun _ => (.exit 2, ⟨SS [(0, .sl 1 (l.map (.int .i64))), (3, .ref [7] 0 (a ++ four x).length), (4, .int .i64 n)], HS [([7], ⟨false, 5, 1, (a ++ four x).map eByte, none⟩)]⟩)) (fun k => 4 - k) 0 (by omega) ?_ ?_ ?_
    · simp [go_sem, shN]
    · intro k hk
      have hf := (fd x).1
      by_cases c : k < 4
      · have : k = 0 ∨ k = 1 ∨ k = 2 ∨ k = 3 := by omega
        rcases this with rfl | rfl | rfl | rfl
        · simp [go_sem, shN, four, eByte, (fd x).1, show a.length + 1 ≤ 1073741824 by omega, show a.length ≤ 1073741823 by omega, wrap_id (n := (1 : Int)) (by omega)]
          refine ⟨1, by omega, by omega, ?_⟩
          simp [shN]
        · simp [go_sem, shN, four, eByte, (fd (x / 256)).1, show a.length + 1 + 1 ≤ 1073741824 by omega, show a.length + 2 ≤ 1073741824 by omega, show a.length ≤ 1073741822 by omega, wrap_id (n := (2 : Int)) (by omega)]
          refine ⟨2, by omega, by omega, ?_⟩
          simp [shN, show x / 256 / 256 = x / 65536 by omega]
        · simp [go_sem, shN, four, eByte, (fd (x / 65536)).1, show a.length + 2 + 1 ≤ 1073741824 by omega, show a.length + 3 ≤ 1073741824 by omega, show a.length ≤ 1073741821 by omega, wrap_id (n := (3 : Int)) (by omega)]
          refine ⟨3, by omega, by omega, ?_⟩
          simp [shN, show x / 65536 / 256 = x / 16777216 by omega]
        · simp [go_sem, shN, four, eByte, (fd (x / 16777216)).1, show a.length + 3 + 1 ≤ 1073741824 by omega, show a.length + 4 ≤ 1073741824 by omega, show a.length ≤ 1073741820 by omega, wrap_id (n := (4 : Int)) (by omega)]
          refine ⟨4, by omega, by omega, ?_⟩
          simp [shN, show x / 16777216 / 256 = x / 4294967296 by omega]
      · obtain rfl : k = 4 := by omega
        simp [go_sem, four]
    · simp [go_sem, four, eByte, wrap_id (n := (n : Int) + 1) (by omega)]
      exact this
  · intro a hI; simp [go_sem, packF]
  · intro _; simp
  · have := packF_length l
    simp [go_sem, show (packF l).length ≤ 1099511627776 by omega]
theorem l02Seal_E (kind : Int) (l : List Int) (hl : l.length ≤ 1000) : E CX 166 [.int .i64 kind, .sl 1 (l.map (.int .i64))] [] = some { val := .str (sealF kind l) } := by
  refine E_fin Tryz.f166 _ an166 rfl rfl rfl Tryz.func166 rfl (by kernel_rfl) ?_
  have e1 := l02Pack_E l hl
  have hp := packF_length l
  have e2 := l02Sum_E ([byteOf kind, byteOf l.length] ++ packF l) (by simp; omega)
  simp at e2
  simp [go_sem, e1, e2, sealF, show 2 + (packF l).length ≤ 4611686018427387904 by omega, show (packF l).length + 1 + 1 + 2 ≤ 4611686018427387904 by omega, show 2 + (2 + (packF l).length) ≤ 4611686018427387904 by omega, show 2 + 2 + (packF l).length ≤ 4611686018427387904 by omega, show 4 + (packF l).length ≤ 4611686018427387904 by omega]
end Go.Proofs.YtdcgfapededocaaGreat



namespace Go.Proofs.YtdcgfapededocaaGreat
open Go
set_option maxRecDepth 100000
set_option linter.unusedSimpArgs false
set_option linter.unusedVariables false
end Go.Proofs.YtdcgfapededocaaGreat



namespace Go.Proofs.YtdcgfapededocaaGreat
open Go
set_option maxRecDepth 100000
set_option linter.unusedSimpArgs false
set_option linter.unusedVariables false
structure Update where
  at_ : Int
  data : List UInt8
  deriving Inhabited, DecidableEq
def eUpdate (x : Update) : AV := .agg [.int .i64 (x.at_), .str (x.data)]
theorem sharesL_eUpdate (l : List Update) : AV.sharesL (l.map eUpdate) = false := sharesL_map (fun _ => by simp [eUpdate, go_sem]) l
theorem sharesL_repeUpdate (n : Nat) (x : Update) : AV.sharesL (List.replicate n (eUpdate x)) = false := sharesL_rep _ (by simp [eUpdate, go_sem]) n
attribute [go_sem] sharesL_eUpdate sharesL_repeUpdate
end Go.Proofs.YtdcgfapededocaaGreat



namespace Go.Proofs.YtdcgfapededocaaGreat
open Go
set_option maxRecDepth 100000
set_option linter.unusedSimpArgs false
set_option linter.unusedVariables false
end Go.Proofs.YtdcgfapededocaaGreat



namespace Go.Proofs.YtdcgfapededocaaGreat
open Go
set_option maxRecDepth 100000
set_option linter.unusedSimpArgs false
set_option linter.unusedVariables false
/-- One move; what is behind the writes in their row. -/
def mvT (h : Int) (a : Disk × List Io) (m : Move) : Disk × List Io := if m.kind = 2 then (settleD a.1 h 400 false, List.replicate (a.1.ps.length - (settleD a.1 h 400 false).ps.length) zIo) else (⟨a.1.ss, a.1.ps ++ [⟨h, m.at_, m.data⟩]⟩, [])
structure Good (d : Disk) (n : Nat) : Prop where
  ss : d.ss.length = 64
  ps : d.ps.length ≤ n
  at_ : ∀ x ∈ d.ps, 0 ≤ x.at_ ∧ x.at_.toNat < 64
theorem Good.settle {d : Disk} {n : Nat} (g : Good d n) (h k : Int) (lose : Bool) : Good (settleD d h k lose) n := by
  have := landL_len h lose d.ps k d.ss
  exact ⟨by simp only [settleD]; rw [this.2, g.ss], by simp only [settleD]; have := g.ps; omega, landL_all h lose (fun x => 0 ≤ x.at_ ∧ x.at_.toNat < 64) d.ps k d.ss g.at_⟩
theorem moved_E (d : Disk) (h : Int) (l : List Move) (g : Good d 1000000) (hl : l.length ≤ 1000000) (hm : ∀ m ∈ l, m.kind ≠ 2 → 0 ≤ m.at_ ∧ m.at_.toNat < 64) : E CX 184 [eDisk d, .int .i64 h, .sl 3 (l.map eMove)] [] =
    some { val := .agg [.ref [0, 0, 0, 0] 0 (l.foldl (mvT h) (d, [])).1.ss.length, .ref [1, 0, 0, 0] 0 (l.foldl (mvT h) (d, [])).1.ps.length], own := [⟨false, 9, 1, (l.foldl (mvT h) (d, [])).1.ss.map .str, none⟩, ⟨false, 105, 3, ((l.foldl (mvT h) (d, [])).1.ps ++ (l.foldl (mvT h) (d, [])).2).map eIo, none⟩] } := by
  refine E_fin Tryz.f184 _ an184 rfl rfl rfl Tryz.func184 rfl (by kernel_rfl) ?_
  have e1 := copied_E d (by have := g.ss; omega) (by have := g.ps; omega)
  simp only [eDisk] at e1
  simp [go_sem, eDisk, e1]
  refine loop_for (fun X => fin CX _ _ X = _) l (fun n (a : Disk × List Io) => Good a.1 (1000000 + n)) (fun n a => ⟨SS [(1, .int .i64 h), (6, .ptr [6] 0 0), (7, .ptr [7] 0 0), (12, .sl 3 (l.map eMove)), (13, .int .i64 l.length), (14, .int .i64 n)],
      HS [([6], ⟨true, 41, 2, [.agg [.nil, .nil]], none⟩), ([7], ⟨true, 41, 2, [.agg [.ref [60] 0 a.1.ss.length, .ref [61] 0 a.1.ps.length]], none⟩), ([60], ⟨false, 9, 1, a.1.ss.map .str, none⟩), ([61], ⟨false, 105, 3, (a.1.ps ++ a.2).map eIo, none⟩)]⟩)
     (fun r n a => (.exit 0, ⟨SS [(6, .ptr [6] 0 0), (7, .ptr [7] 0 0)],
      HS [([6], ⟨true, 41, 2, [.agg [.nil, .nil]], none⟩), ([7], ⟨true, 41, 2, [.agg [.ref [60] 0 (r.foldl (mvT h) a).1.ss.length, .ref [61] 0 (r.foldl (mvT h) a).1.ps.length]], none⟩), ([60], ⟨false, 9, 1, (r.foldl (mvT h) a).1.ss.map .str, none⟩), ([61], ⟨false, 105, 3, ((r.foldl (mvT h) a).1.ps ++ (r.foldl (mvT h) a).2).map eIo, none⟩)]⟩)) (d, []) g ?_ ?_ ?_ ?_ ?_
  · simp [go_sem]
  · intro R n a m t hn hx hd hI hR
    have hx := hx hn
    obtain ⟨⟨ss, ps⟩, tl⟩ := a
    have hI1 := hI.ss; have hI2 := hI.ps; have hI3 := hI.at_
    simp only at hI1 hI2 hI3
    have hmm := hm m (by rw [← hx]; exact List.getElem_mem hn)
    by_cases c : m.kind = 2
    · have e2 := settle_E ⟨ss, ps⟩ h 400 false (by simp only; omega) (by simp only; omega) (by simp only; rw [hI1]; exact hI3) (by unfold In64; omega)
      have hg := hI.settle h 400 false
      simp only [eDisk] at e2
      have := hR (settleD ⟨ss, ps⟩ h 400 false, List.replicate (ps.length - (settleD ⟨ss, ps⟩ h 400 false).ps.length) zIo) ⟨hg.ss, by have := hg.ps; simp only at this ⊢; omega, hg.at_⟩ (by simp [mvT, c])
      have hss : (settleD ⟨ss, ps⟩ h 400 false).ss.length = ss.length := hg.ss.trans hI1.symm
      simp [go_sem, hss] at this
      simp [go_sem, hn, hx, eMove, c, e2, wrap_id (n := (n : Int) + 1) (by omega)]
      exact this
    · have := hR (⟨ss, ps ++ [⟨h, m.at_, m.data⟩]⟩, []) (by
        refine ⟨hI1, by simp; omega, ?_⟩
        intro x hx
        simp only [List.mem_append, List.mem_singleton] at hx
        rcases hx with hx | rfl
        · exact hI3 x hx
        · exact hmm c) (by simp [mvT, c])
      simp [go_sem, eIo] at this
      simp [go_sem, hn, hx, eMove, c, wrap_id (n := (n : Int) + 1) (by omega), show ps.length + 1 ≤ 1073741824 by omega]
      exact this
  · intro a hI
    simp [go_sem]
  · intro _; simp
  · simp [go_sem]
end Go.Proofs.YtdcgfapededocaaGreat



namespace Go.Proofs.YtdcgfapededocaaGreat
open Go
set_option maxRecDepth 100000
set_option linter.unusedSimpArgs false
set_option linter.unusedVariables false
theorem l01Own_E (d : Disk) (h1 : d.ss.length ≤ 1073741824) (h2 : d.ps.length ≤ 1073741824) : E CX 242 [eDisk d] [] = some { val := .agg [.ref [0, 0, 0, 0] 0 d.ss.length, .ref [1, 0, 0, 0] 0 d.ps.length], own := [⟨false, 9, 1, d.ss.map .str, none⟩, ⟨false, 105, 3, d.ps.map eIo, none⟩] } := by
  refine E_fin Tryz.f242 _ an242 rfl rfl rfl Tryz.func242 rfl (by kernel_rfl) ?_
  simp [go_sem, eDisk, h1, h2]
end Go.Proofs.YtdcgfapededocaaGreat



namespace Go.Proofs.YtdcgfapededocaaGreat
open Go
set_option maxRecDepth 100000
set_option linter.unusedSimpArgs false
set_option linter.unusedVariables false
end Go.Proofs.YtdcgfapededocaaGreat



namespace Go.Proofs.YtdcgfapededocaaGreat
open Go
set_option maxRecDepth 100000
set_option linter.unusedSimpArgs false
set_option linter.unusedVariables false
theorem l01Land_E (d : Disk) (h k : Int) (lose : Bool) (h1 : d.ss.length ≤ 1073741824) (h2 : d.ps.length ≤ 1000000000) (hp : ∀ x ∈ d.ps, 0 ≤ x.at_ ∧ x.at_.toNat < d.ss.length) (hk : In64 k) :
    E CX 216 [eDisk d, .int .i64 h, .int .i64 k, .bool lose] [] = some { val := .agg [.ref [0, 0, 0, 0] 0 d.ss.length, .ref [1, 0, 0, 0] 0 (settleD d h k lose).ps.length], own := [⟨false, 9, 1, (settleD d h k lose).ss.map .str, none⟩, ⟨false, 105, 3, (settleD d h k lose).ps.map eIo, none⟩] } := by
  refine E_fin Tryz.f216 _ an216 rfl rfl rfl Tryz.func216 rfl (by kernel_rfl) ?_
  have e1 := l01Own_E d h1 (by omega)
  simp only [eDisk] at e1
  simp [go_sem, eDisk, e1]
  refine loop_for (fun X => fin CX _ _ X = _) d.ps (fun n (a : List Io × Int × List Tx) => In64 a.2.1 ∧ a.2.2.length = d.ss.length ∧ a.1.length ≤ n)
    (fun n a => ⟨SS [(1, .int .i64 h), (2, .int .i64 a.2.1), (3, .bool lose), (4, .ptr [4] 0 0), (8, .ptr [8] 0 0), (9, .ref [14] 0 a.1.length), (10, .int .i64 n)],
      HS [([4], ⟨true, 41, 2, [.agg [.ref [60] 0 d.ss.length, .ref [61] 0 d.ps.length]], none⟩), ([8], ⟨true, 41, 2, [.agg [.nil, .nil]], none⟩), ([14], ⟨false, 105, 3, a.1.map eIo, none⟩), ([60], ⟨false, 9, 1, a.2.2.map .str, none⟩), ([61], ⟨false, 105, 3, d.ps.map eIo, none⟩)]⟩)
    (fun r n a => (.exit 0, ⟨SS [(4, .ptr [4] 0 0), (8, .ptr [8] 0 0), (9, .ref [14] 0 (a.1 ++ (landL h lose r a.2.1 a.2.2).1).length)],
      HS [([4], ⟨true, 41, 2, [.agg [.ref [60] 0 d.ss.length, .ref [61] 0 d.ps.length]], none⟩), ([8], ⟨true, 41, 2, [.agg [.nil, .nil]], none⟩), ([14], ⟨false, 105, 3, (a.1 ++ (landL h lose r a.2.1 a.2.2).1).map eIo, none⟩), ([60], ⟨false, 9, 1, (landL h lose r a.2.1 a.2.2).2.2.map .str, none⟩), ([61], ⟨false, 105, 3, d.ps.map eIo, none⟩)]⟩)) ([], k, d.ss) ⟨hk, rfl, by simp⟩ ?_ ?_ ?_ ?_ ?_
  · simp [go_sem]
  · rintro R n ⟨q, k, ss⟩ x t hn hx hd ⟨I1, I2, I3⟩ hR
    simp only at I1 I2 I3
    have hx := hx hn
    have hxp := hp x (by rw [← hx]; exact List.getElem_mem hn)
    obtain ⟨xh, xa, xd⟩ := x
    unfold In64 at I1
    by_cases c1 : xh = h
    · by_cases c2 : 0 < k
      · have := hR (q, k - 1, ss.set xa.toNat xd) ⟨by simp only [In64]; omega, by simp [I2], by simp only; omega⟩ (by simp [landL, goes, kOf, sOf, c1, c2])
        simp [go_sem] at this
        simp [go_sem, hn, hx, eIo, c1, c2, I2, hxp.1, hxp.2, wrap_id (n := (n : Int) + 1) (by omega), wrap_id (n := k - 1) (by omega)]
        exact this
      · cases lose
        · have := hR (q ++ [⟨xh, xa, xd⟩], k, ss) ⟨by simp only [In64]; omega, I2, by simp only [List.length_append, List.length_singleton]; omega⟩ (by simp [landL, goes, c1, c2])
          simp [go_sem, eIo, c1] at this
          simp [go_sem, hn, hx, eIo, c1, c2, show q.length + 1 ≤ 1073741824 by omega, wrap_id (n := (n : Int) + 1) (by omega)]
          exact this
        · have := hR (q, k, ss) ⟨by simp only [In64]; omega, I2, by simp only; omega⟩ (by simp [landL, goes, kOf, sOf, c1, c2])
          simp [go_sem] at this
          simp [go_sem, hn, hx, eIo, c1, c2, wrap_id (n := (n : Int) + 1) (by omega)]
          exact this
    · have := hR (q ++ [⟨xh, xa, xd⟩], k, ss) ⟨by simp only [In64]; omega, I2, by simp only [List.length_append, List.length_singleton]; omega⟩ (by simp [landL, goes, c1])
      simp [go_sem, eIo] at this
      simp [go_sem, hn, hx, eIo, c1, show q.length + 1 ≤ 1073741824 by omega, wrap_id (n := (n : Int) + 1) (by omega)]
      exact this
  · rintro ⟨q, k, ss⟩ hI
    simp [go_sem, landL]
  · intro _; simp
  · simp [go_sem, settleD]
theorem l01Flush_E (d : Disk) (h : Int) (g : Good d 1000000000) :
    E CX 180 [eDisk d, .int .i64 h] [] = some { val := eDisk (settleD d h 200 false) } := by
  refine E_fin Tryz.f180 _ an180 rfl rfl rfl Tryz.func180 rfl (by kernel_rfl) ?_
  have e1 := l01Land_E d h 200 false (by have := g.ss; omega) g.ps (by rw [g.ss]; exact g.at_) (by unfold In64; omega)
  have hss : (settleD d h 200 false).ss.length = d.ss.length := (g.settle h 200 false).ss.trans g.ss.symm
  simp only [eDisk] at e1 ⊢
  rw [← hss] at e1
  simp [go_sem, e1]
theorem l01Write_E (d : Disk) (x : Io) (h2 : d.ps.length ≤ 1000000000) :
    E CX 179 [eDisk d, eIo x] [] = some { val := .agg [.sl 1 (d.ss.map .str), .ref [0, 0, 0, 0] 0 (d.ps.length + 1)], own := [⟨false, 105, 3, (d.ps ++ [x]).map eIo, none⟩] } := by
  refine E_fin Tryz.f179 _ an179 rfl rfl rfl Tryz.func179 rfl (by kernel_rfl) ?_
  simp [go_sem, eDisk, eIo, show d.ps.length + 1 ≤ 1073741824 by omega, show d.ps.length ≤ 1073741824 by omega]
def mvS (h : Int) (d : Disk) (m : Move) : Disk := if m.kind = 2 then settleD d h 200 false else ⟨d.ss, d.ps ++ [⟨h, m.at_, m.data⟩]⟩
end Go.Proofs.YtdcgfapededocaaGreat



namespace Go.Proofs.YtdcgfapededocaaGreat
open Go
set_option maxRecDepth 100000
set_option linter.unusedSimpArgs false
set_option linter.unusedVariables false
section
variable (d : Disk) (h : Int) (l : List Move)
end
end Go.Proofs.YtdcgfapededocaaGreat



namespace Go.Proofs.YtdcgfapededocaaGreat
open Go
set_option maxRecDepth 100000
set_option linter.unusedSimpArgs false
set_option linter.unusedVariables false
section
variable (d : Disk) (h : Int) (l : List Move)
end
/-! Both go alike. -/
theorem landL_room (h : Int) (lose : Bool) : ∀ (l : List Io) (k k' : Int) (ss : List Tx), (l.length : Int) ≤ k → (l.length : Int) ≤ k' → (landL h lose l k ss).1 = (landL h lose l k' ss).1 ∧ (landL h lose l k ss).2.2 = (landL h lose l k' ss).2.2 := by
  intro l
  induction l with
  | nil => intro k k' ss _ _; exact ⟨rfl, rfl⟩
  | cons x l ih =>
    intro k k' ss h1 h2
    simp only [List.length_cons, Int.natCast_add, Int.natCast_one] at h1 h2
    unfold landL
    by_cases c : x.host = h
    · have k1 : 0 < k := by omega
      have k2 : 0 < k' := by omega
      simp only [goes, kOf, sOf, c, k1, k2, if_true, and_self]
      exact ih _ _ _ (by omega) (by omega)
    · simp only [goes, c, if_false, Bool.false_eq_true]
      obtain ⟨e1, e2⟩ := ih k k' ss (by omega) (by omega)
      exact ⟨by rw [e1], e2⟩
theorem settle_room (d : Disk) (h k k' : Int) (lose : Bool) (h1 : (d.ps.length : Int) ≤ k) (h2 : (d.ps.length : Int) ≤ k') : settleD d h k lose = settleD d h k' lose := by
  obtain ⟨e1, e2⟩ := landL_room h lose d.ps k k' d.ss h1 h2
  simp only [settleD, e1, e2]
theorem moves_alike (h : Int) : ∀ (l : List Move) (d : Disk) (tl : List Io), d.ps.length + l.length ≤ 200 → (l.foldl (mvT h) (d, tl)).1 = l.foldl (mvS h) d := by
  intro l
  induction l with
  | nil => intro d tl _; rfl
  | cons m l ih =>
    intro d tl hl
    simp only [List.length_cons] at hl
    simp only [List.foldl_cons, mvT, mvS]
    by_cases c : m.kind = 2
    · simp only [c, if_true]
      rw [ih _ _ (by have := (landL_len h false d.ps 400 d.ss).1; simp only [settleD]; omega), settle_room d h 400 200 false (by omega) (by omega)]
    · simp only [c, if_false]
      exact ih _ _ (by simp; omega)
theorem moves_good (h : Int) : ∀ (l : List Move) (d : Disk) (n : Nat), Good d n → (∀ m ∈ l, m.kind ≠ 2 → 0 ≤ m.at_ ∧ m.at_.toNat < 64) → Good (l.foldl (mvS h) d) (n + l.length) := by
  intro l
  induction l with
  | nil => intro d n g _; exact g
  | cons m l ih =>
    intro d n g hm
    simp only [List.foldl_cons, List.length_cons]
    rw [show n + (l.length + 1) = n + 1 + l.length by omega]
    refine ih _ (n + 1) ?_ fun m hm' => hm m (by simp [hm'])
    unfold mvS
    by_cases c : m.kind = 2
    · have := g.settle h 200 false
      simp only [c, if_true]
      exact ⟨this.ss, by have := this.ps; omega, this.at_⟩
    · simp only [c, if_false]
      refine ⟨g.ss, by have := g.ps; simp; omega, ?_⟩
      intro x hx
      simp only [List.mem_append, List.mem_singleton] at hx
      rcases hx with hx | rfl
      · exact g.at_ x hx
      · exact hm m (by simp) c
end Go.Proofs.YtdcgfapededocaaGreat



namespace Go.Proofs.YtdcgfapededocaaGreat
open Go
set_option maxRecDepth 100000
set_option linter.unusedSimpArgs false
set_option linter.unusedVariables false
section
variable (d : Disk) (h of_ : Int) (hd : diskOK d = true) (ho : 0 ≤ of_ ∧ of_ ≤ 3)
include hd ho
end
end Go.Proofs.YtdcgfapededocaaGreat



namespace Go.Proofs.YtdcgfapededocaaGreat
open Go
set_option maxRecDepth 100000
set_option linter.unusedSimpArgs false
set_option linter.unusedVariables false
section
variable (d : Disk) (h of_ : Int) (hd : diskOK d = true) (ho : 0 ≤ of_ ∧ of_ ≤ 3)
include hd ho
end
end Go.Proofs.YtdcgfapededocaaGreat



namespace Go.Proofs.YtdcgfapededocaaGreat
open Go
set_option maxRecDepth 100000
set_option linter.unusedSimpArgs false
set_option linter.unusedVariables false
structure Delta where
  host : Int
  gen : Int
  stamp : Int
  deriving Inhabited, DecidableEq
end Go.Proofs.YtdcgfapededocaaGreat



namespace Go.Proofs.YtdcgfapededocaaGreat
open Go
set_option maxRecDepth 100000
set_option linter.unusedSimpArgs false
set_option linter.unusedVariables false
end Go.Proofs.YtdcgfapededocaaGreat



namespace Go.Proofs.YtdcgfapededocaaGreat
open Go
set_option maxRecDepth 100000
set_option linter.unusedSimpArgs false
set_option linter.unusedVariables false
end Go.Proofs.YtdcgfapededocaaGreat



namespace Go.Proofs.YtdcgfapededocaaGreat
open Go
set_option maxRecDepth 100000
set_option linter.unusedSimpArgs false
set_option linter.unusedVariables false
structure Leader where
  ver : Int
  owner : Int
  gen : Int
  deriving Inhabited, DecidableEq
end Go.Proofs.YtdcgfapededocaaGreat



namespace Go.Proofs.YtdcgfapededocaaGreat
open Go
set_option maxRecDepth 100000
set_option maxHeartbeats 1000000
set_option linter.unusedSimpArgs false
set_option linter.unusedVariables false
end Go.Proofs.YtdcgfapededocaaGreat



namespace Go.Proofs.YtdcgfapededocaaGreat
open Go
set_option maxRecDepth 100000
set_option maxHeartbeats 4000000
set_option linter.unusedSimpArgs false
set_option linter.unusedVariables false
theorem newDisk_E : E CX 130 [] [] = some { val := .agg [.ref [0, 0, 0, 0] 0 64, .nil], own := [⟨false, 9, 1, List.replicate 64 (.str []), none⟩] } := by
  refine E_fin Tryz.f130 _ an130 rfl rfl rfl Tryz.func130 rfl (by kernel_rfl) ?_
  simp [go_sem, -List.reduceReplicate]
theorem l01New_E : E CX 128 [] [] = some { val := .agg [.ref [0, 0, 0, 0] 0 64, .ref [1, 0, 0, 0] 0 0], own := [⟨false, 9, 1, List.replicate 64 (.str []), none⟩, ⟨false, 105, 3, [], none⟩] } := by
  refine E_fin Tryz.f128 _ an128 rfl rfl rfl Tryz.func128 rfl (by kernel_rfl) ?_
  simp [go_sem, -List.reduceReplicate]
end Go.Proofs.YtdcgfapededocaaGreat



namespace Go.Proofs.YtdcgfapededocaaGreat
open Go
set_option maxRecDepth 100000
set_option linter.unusedSimpArgs false
set_option linter.unusedVariables false
theorem sumOf_Z (t : Tx) (ht : t.length ≤ 1000000) : E CZ 236 [.str t] [] = some { val := .int .i64 (sumF t 1 0) } := by
  refine E_fin Tryz.f236 _ an236 rfl rfl rfl Tryz.func236 rfl (by kernel_rfl) ?_
  simp [go_sem]
  refine loop_for (fun X => fin CZ _ _ X = _) t (fun n (a : Int) => 0 ≤ a ∧ a < 251) (fun n a => ⟨SS [(0, .str t), (3, .int .i64 a), (6, .int .i64 t.length), (7, .int .i64 n)], HE⟩) (fun r n a => (.exit 0, ⟨SS [(3, .int .i64 (sumF r (n + 1) a))], HE⟩)) 0 (by omega) ?_ ?_ ?_ ?_ ?_
  · simp [go_sem]
  · intro R n a b r hn hx hd hI hR
    have hx := hx hn
    have hb := b.toNat_lt
    have m1 : 0 ≤ ((n : Int) + 1) * ((b.toNat : Int) + 1) := Int.mul_nonneg (by omega) (by omega)
    have m2 : ((n : Int) + 1) * ((b.toNat : Int) + 1) ≤ 1000001 * 257 := Int.mul_le_mul (by omega) (by omega) (by omega) (by omega)
    have hp : ((n : Int) + 1) * ((b.toNat : Int) + 1) = (n : Int) * b.toNat + n + b.toNat + 1 := by rw [Int.add_mul, Int.mul_add]; omega
    have := hR ((a + ((n : Int) + 1) * ((b.toNat : Int) + 1)).tmod 251) (by rw [Int.tmod_eq_emod_of_nonneg (by omega)]; omega) (by simp [sumF])
    simp [go_sem] at this
    simp [go_sem, hn, hx, wrap_byte, wrap_id (n := (n : Int) + 1) (by omega), wrap_id (n := (b.toNat : Int) + 1) (by omega), wrap_id (n := ((n : Int) + 1) * ((b.toNat : Int) + 1)) (by omega), wrap_id (n := a + ((n : Int) + 1) * ((b.toNat : Int) + 1)) (by omega)]
    exact this
  · intro _ _; simp [go_sem, sumF]
  · intro _; simp
  · simp [go_sem]
theorem pack_Z (l : List Int) (hl : l.length ≤ 1000) : E CZ 235 [.sl 1 (l.map (.int .i64))] [] = some { val := .str (packF l) } := by
  refine E_fin Tryz.f235 _ an235 rfl rfl rfl Tryz.func235 rfl (by kernel_rfl) ?_
  simp [go_sem]
  refine loop_for (fun X => fin CZ _ _ X = _) l (fun n (a : Tx) => a.length = 4 * n) (fun n a => ⟨SS [(3, .ref [6] 0 a.length), (7, .sl 1 (l.map (.int .i64))), (8, .int .i64 l.length), (9, .int .i64 n)], HS [([6], ⟨false, 5, 1, a.map eByte, none⟩)]⟩)
    (fun r n a => (.exit 0, ⟨SS [(3, .ref [6] 0 (a ++ packF r).length)], HS [([6], ⟨false, 5, 1, (a ++ packF r).map eByte, none⟩)]⟩)) [] rfl ?_ ?_ ?_ ?_ ?_
  · simp [go_sem]
  · intro R n a x r hn hx hd hI hR
    have hx := hx hn
    have := hR (a ++ four x) (by simp [four, hI]; omega) (by simp [packF])
    simp [go_sem, four, eByte] at this
    simp [go_sem, hn, hx, wrap_u8, (fd x).1, (fd x).2.1, (fd x).2.2, show a.length + 4 ≤ 1073741824 by omega, wrap_id (n := (n : Int) + 1) (by omega)]
    exact this
  · intro a hI; simp [go_sem, packF]
  · intro _; simp
  · have := packF_length l
    simp [go_sem, bytesOf_map, show (packF l).length ≤ 1099511627776 by omega]
theorem seal_Z (kind : Int) (l : List Int) (hl : l.length ≤ 1000) : E CZ 203 [.int .i64 kind, .sl 1 (l.map (.int .i64))] [] = some { val := .str (sealF kind l) } := by
  refine E_fin Tryz.f203 _ an203 rfl rfl rfl Tryz.func203 rfl (by kernel_rfl) ?_
  have e1 := pack_Z l hl
  have hp := packF_length l
  have e2 := sumOf_Z ([byteOf kind, byteOf l.length] ++ packF l) (by simp; omega)
  simp at e2
  simp [go_sem, e1, e2, sealF, show 2 + (packF l).length ≤ 4611686018427387904 by omega, show (packF l).length + 1 + 1 + 2 ≤ 4611686018427387904 by omega, show 2 + (2 + (packF l).length) ≤ 4611686018427387904 by omega, show 2 + 2 + (packF l).length ≤ 4611686018427387904 by omega, show 4 + (packF l).length ≤ 4611686018427387904 by omega]

/-- Six counts as a number. -/
def six (l : List Int) : Int := l.getD 0 0 + 16 * (l.getD 1 0 + 16 * (l.getD 2 0 + 16 * (l.getD 3 0 + 16 * (l.getD 4 0 + 16 * l.getD 5 0))))
def sixes (l : List Int) : List Int := [six l, six (l.drop 6), six (l.drop 12), six (l.drop 18)]
def refsF (l : List Int) : Tx := sealF 2 (sixes l)
theorem six_wrap (a b c d e f : Int) (h : (0 ≤ a ∧ a ≤ 15) ∧ (0 ≤ b ∧ b ≤ 15) ∧ (0 ≤ c ∧ c ≤ 15) ∧ (0 ≤ d ∧ d ≤ 15) ∧ (0 ≤ e ∧ e ≤ 15) ∧ (0 ≤ f ∧ f ≤ 15)) :
    IntKind.i64.wrap (IntKind.i64.wrap (16 * IntKind.i64.wrap (IntKind.i64.wrap (16 * IntKind.i64.wrap (IntKind.i64.wrap (16 * IntKind.i64.wrap (IntKind.i64.wrap (16 * IntKind.i64.wrap (IntKind.i64.wrap (16 * IntKind.i64.wrap (IntKind.i64.wrap (16 * 0) + f)) + e)) + d)) + c)) + b)) + a) =
      a + 16 * (b + 16 * (c + 16 * (d + 16 * (e + 16 * f)))) := by
  have w : ∀ x y : Int, 0 ≤ x → x ≤ 1000000000 → 0 ≤ y → y ≤ 15 → IntKind.i64.wrap (IntKind.i64.wrap (16 * x) + y) = 16 * x + y := by
    intro x y h1 h2 h3 h4
    rw [wrap_id (n := 16 * x) (by omega), wrap_id (by omega)]
  rw [w 0 f (by omega) (by omega) (by omega) (by omega), w _ e (by omega) (by omega) (by omega) (by omega), w _ d (by omega) (by omega) (by omega) (by omega), w _ c (by omega) (by omega) (by omega) (by omega), w _ b (by omega) (by omega) (by omega) (by omega), w _ a (by omega) (by omega) (by omega) (by omega)]
  omega
theorem refs_at {l : List Int} (h : refsOK l = true) (i : Nat) : 0 ≤ l.getD i 0 ∧ l.getD i 0 ≤ 15 := by
  simp only [refsOK, Bool.and_eq_true, List.all_eq_true, decide_eq_true_eq] at h
  by_cases hi : i < l.length
  · have := h.2 (l.getD i 0) (by rw [List.getD_eq_getElem?_getD, List.getElem?_eq_getElem hi]; exact List.getElem_mem hi)
    simpa [inn] using this
  · rw [List.getD_eq_getElem?_getD, List.getElem?_eq_none (by omega)]; decide
theorem stRs_is {l : List Int} (h : refsOK l = true) : stRs l = sixes l := by
  have hb := refs_at h
  have hd : ∀ n i, (l.drop n).getD i 0 = l.getD (n + i) 0 := by intro n i; simp [List.getD_eq_getElem?_getD, List.getElem?_drop]
  unfold stRs sixes six
  generalize hf : (fun i => l.getD i 0) = f
  have hg : ∀ i, l.getD i 0 = f i := by intro i; rw [← hf]
  simp only [hd, hg] at hb ⊢
  have e0 : stR f 24 0 = _ := rfl
  refine List.cons_eq_cons.2 ⟨?_, List.cons_eq_cons.2 ⟨?_, List.cons_eq_cons.2 ⟨?_, List.cons_eq_cons.2 ⟨?_, rfl⟩⟩⟩⟩
  · exact six_wrap (f 0) (f 1) (f 2) (f 3) (f 4) (f 5) ⟨hb 0, hb 1, hb 2, hb 3, hb 4, hb 5⟩
  · exact six_wrap (f 6) (f 7) (f 8) (f 9) (f 10) (f 11) ⟨hb 6, hb 7, hb 8, hb 9, hb 10, hb 11⟩
  · exact six_wrap (f 12) (f 13) (f 14) (f 15) (f 16) (f 17) ⟨hb 12, hb 13, hb 14, hb 15, hb 16, hb 17⟩
  · exact six_wrap (f 18) (f 19) (f 20) (f 21) (f 22) (f 23) ⟨hb 18, hb 19, hb 20, hb 21, hb 22, hb 23⟩
theorem numL_mapI (l : List Int) : numL (l.map (.int .i64)) = some l := by
  induction l with
  | nil => rfl
  | cons x l ih => simp [numL, ih]
theorem refsText_E (l : List Int) (h : refsOK l = true) : E CX 219 [.sl 1 (l.map (.int .i64))] [] = some { val := .str (refsF l) } := by
  have hE := seal_Z 2 (sixes l) (by simp [sixes])
  have hs := stRs_is h
  rw [← hs] at hE
  have h24 : l.length = 24 := by simp only [refsOK, Bool.and_eq_true, decide_eq_true_eq] at h; exact h.1
  rw [E_ext rfl]
  rw [show CX.X = X0 from rfl]
  delta X0
  (repeat rw [if_neg (by decide)])
  rw [if_pos rfl]
  simp only [refsX, numL_mapI]
  rw [if_pos ⟨h24, _, hE⟩, hE, hs]
  rfl
end Go.Proofs.YtdcgfapededocaaGreat



namespace Go.Proofs.YtdcgfapededocaaGreat
open Go
set_option maxRecDepth 100000
set_option maxHeartbeats 1000000
set_option linter.unusedSimpArgs false
set_option linter.unusedVariables false
/-- A name as a number. -/
def nameN : Tx → Int → Int
  | [], n => n
  | b :: t, n => nameN t (27 * n + ((b.toNat : Int) - 97) + 1)
def nameF (t : Tx) : Int := nameN t 0
def mapU : Nat → List (List Int) → List Update
  | _, [] => []
  | n, t :: ts => ⟨11 + n, sealF 3 t⟩ :: mapU (n + 1) ts
def datU (d : List Int) : Nat → List Int → List Update
  | _, [] => []
  | n, x :: r => (if 0 < x then [⟨15 + n, sealF 4 [d.getD n 0]⟩] else []) ++ datU d (n + 1) r
def superF (m : Img) : Tx := sealF 1 ((m.snaps.length : Int) :: m.snaps.map fun x => nameF x.name)
def upsF (m : Img) : List Update := ⟨9, superF m⟩ :: ⟨10, refsF m.refs⟩ :: (mapU 0 (tabs m) ++ datU m.data 0 m.refs)
theorem packNameU_E (t : Tx) (h : t.length ≤ 6) (hl : t.all isLow = true) : E CX 218 [.str t] [] = some { val := .int .i64 (nameF t) } := by
  refine E_fin Tryz.f218 _ an218 rfl rfl rfl Tryz.func218 rfl (by kernel_rfl) ?_
  have hb : ∀ b ∈ t, 97 ≤ b.toNat ∧ b.toNat ≤ 122 := by
    intro b hb; have := List.all_eq_true.1 hl b hb; simpa [isLow] using this
  simp [go_sem]
  refine loop_for (fun X => fin CX _ _ X = _) t (fun n (a : Int) => 0 ≤ a ∧ a < 27 ^ n ∧ n ≤ 6) (fun n a => ⟨SS [(0, .str t), (3, .int .i64 a), (6, .int .i64 t.length), (7, .int .i64 n)], HE⟩) (fun r n a => (.exit 0, ⟨SS [(3, .int .i64 (nameN r a))], HE⟩)) 0 (by decide) ?_ ?_ ?_ ?_ ?_
  · simp [go_sem]
  · intro R n a b r hn hx hd hI hR
    have hx := hx hn
    obtain ⟨h1, h2⟩ := hb b (by rw [← hx]; exact List.getElem_mem _)
    obtain ⟨i1, i2, i3⟩ := hI
    have hp : (27 : Int) ^ n ≤ 27 ^ 6 := by
      have := Nat.pow_le_pow_right (n := 27) (by omega) i3
      exact_mod_cast this
    have hp2 : (27 : Int) ^ (n + 1) = 27 ^ n * 27 := Int.pow_succ _ _
    have := hR (27 * a + ((b.toNat : Int) - 97) + 1) ⟨by omega, by omega, by omega⟩ (by simp [nameN])
    simp [go_sem] at this
    simp [go_sem, hn, hx, wrap_byte, wrap_id (n := (n : Int) + 1) (by omega), wrap_id (n := 27 * a) (by omega), wrap_id (n := 27 * a + ((b.toNat : Int) - 97)) (by omega), wrap_id (n := 27 * a + ((b.toNat : Int) - 97) + 1) (by omega), u8_id (n := (b.toNat : Int) - 97) (by omega), wrap_id (n := (b.toNat : Int) - 97) (by omega)]
    exact this
  · intro _ _; simp [go_sem, nameN]
  · intro _; simp
  · simp [go_sem, nameF]
end Go.Proofs.YtdcgfapededocaaGreat



namespace Go.Proofs.YtdcgfapededocaaGreat
open Go
set_option maxRecDepth 100000
set_option maxHeartbeats 1000000
set_option linter.unusedSimpArgs false
set_option linter.unusedVariables false
/-- An image whose sectors can be laid. -/
def layOK (m : Img) : Prop := refsOK m.refs = true ∧ m.snaps.length ≤ 3 ∧ (∀ x ∈ m.snaps, x.name.length ≤ 6 ∧ x.name.all isLow = true) ∧ (∀ t ∈ tabs m, t.length ≤ 12) ∧ m.data.length = 24
theorem updatesM_E (m : Img) (h : layOK m) : E CX 183 [eImg m] [] = some { val := .ref [0, 0, 0, 0] 0 (upsF m).length, own := [⟨false, 187, 2, (upsF m).map eUpdate, none⟩] } := by
  obtain ⟨hr, hs, hnm, ht, hd0⟩ := h
  have e1 := names_E m (by omega)
  have e2 := tables_E m (by omega)
  have e3 := refsText_E m.refs hr
  have hr24 : m.refs.length = 24 := by simp only [refsOK, Bool.and_eq_true, decide_eq_true_eq] at hr; exact hr.1
  have htl : (tabs m).length = m.snaps.length + 1 := by simp [tabs]
  refine E_fin Tryz.f183 _ an183 rfl rfl rfl Tryz.func183 rfl (by kernel_rfl) ?_
  simp only [eImg] at e1 e2 ⊢
  simp [go_sem, e1]
  refine loop_for (fun X => fin CX _ _ X = _) m.snaps (fun n (a : List Int) => a.length = n + 1) (fun n a => ⟨SS [(1, .ptr [1] 0 0), (3, .ref [14] 0 a.length), (16, .sl 1 (m.snaps.map (AV.str ∘ Snp.name))), (17, .int .i64 m.snaps.length), (18, .int .i64 n)], HS [([1], ⟨true, 89, 4, [AV.agg [AV.sl 1 (List.map (AV.int .i64) m.refs), AV.sl 1 (List.map (AV.int .i64) m.tab), AV.sl 2 (List.map eSnp m.snaps), AV.sl 1 (List.map (AV.int .i64) m.data)]], none⟩), ([14], ⟨false, 3, 1, a.map (.int .i64), none⟩)]⟩)
    (fun r n a => (.exit 0, ⟨SS [(1, .ptr [1] 0 0), (3, .ref [14] 0 (a ++ r.map fun x => nameF x.name).length)], HS [([1], ⟨true, 89, 4, [AV.agg [AV.sl 1 (List.map (AV.int .i64) m.refs), AV.sl 1 (List.map (AV.int .i64) m.tab), AV.sl 2 (List.map eSnp m.snaps), AV.sl 1 (List.map (AV.int .i64) m.data)]], none⟩), ([14], ⟨false, 3, 1, (a ++ r.map fun x => nameF x.name).map (.int .i64), none⟩)]⟩)) [(m.snaps.length : Int)] (by simp) ?_ ?_ ?_ ?_ ?_
  · simp [go_sem]
  · intro R n a x r hn hx hd hI hR
    have hx := hx hn
    have hxm : x ∈ m.snaps := by rw [← hx]; exact List.getElem_mem _
    have e4 := packNameU_E x.name (hnm x hxm).1 (hnm x hxm).2
    have := hR (a ++ [nameF x.name]) (by simp; omega) (by simp)
    simp [go_sem] at this
    simp [go_sem, hn, hx, e4, wrap_id (n := (n : Int) + 1) (by omega), show a.length + 1 ≤ 1073741824 by omega]
    exact this
  · intro a hI; simp [go_sem]
  · intro _; simp
  · have e5 := seal_E 1 ((m.snaps.length : Int) :: m.snaps.map fun x => nameF x.name) (by simp; omega)
    simp only [List.map_cons, List.map_map] at e5
    simp [go_sem, e5, e3, e2]
    have hsum : ∀ l : List Int, l.length ≤ 1000 → E CX 203 [.int .i64 3, .sl 1 (l.map (.int .i64))] [] = some { val := .str (sealF 3 l) } := fun l hl => seal_E 3 l hl
    refine loop_for (fun X => fin CX _ _ X = _) (tabs m) (fun n (a : List Update) => a.length = n + 2) (fun n a => ⟨SS [(1, .ptr [1] 0 0), (6, .ref [35] 0 a.length), (37, .sl 1 ((tabs m).map eTab)), (38, .int .i64 (tabs m).length), (39, .int .i64 n)], HS [([1], ⟨true, 89, 4, [AV.agg [AV.sl 1 (List.map (AV.int .i64) m.refs), AV.sl 1 (List.map (AV.int .i64) m.tab), AV.sl 2 (List.map eSnp m.snaps), AV.sl 1 (List.map (AV.int .i64) m.data)]], none⟩), ([35], ⟨false, 187, 2, a.map eUpdate, none⟩)]⟩)
      (fun r n a => (.exit 2, ⟨SS [(1, .ptr [1] 0 0), (6, .ref [35] 0 (a ++ mapU n r).length)], HS [([1], ⟨true, 89, 4, [AV.agg [AV.sl 1 (List.map (AV.int .i64) m.refs), AV.sl 1 (List.map (AV.int .i64) m.tab), AV.sl 2 (List.map eSnp m.snaps), AV.sl 1 (List.map (AV.int .i64) m.data)]], none⟩), ([35], ⟨false, 187, 2, (a ++ mapU n r).map eUpdate, none⟩)]⟩)) [⟨9, superF m⟩, ⟨10, refsF m.refs⟩] (by simp) ?_ ?_ ?_ ?_ ?_
    · simp [go_sem, eUpdate, superF]
    · intro R n a x r hn hx hd hI hR
      have hx := hx hn
      have hxm : x ∈ tabs m := by rw [← hx]; exact List.getElem_mem _
      have e6 := hsum x (by have := ht x hxm; omega)
      have := hR (a ++ [⟨11 + n, sealF 3 x⟩]) (by simp; omega) (by simp [mapU])
      simp [go_sem, eUpdate] at this
      simp [go_sem, hn, hx, eTab, e6, wrap_id (n := (n : Int) + 1) (by omega), wrap_id (n := 11 + (n : Int)) (by omega), show a.length + 1 ≤ 1073741824 by omega]
      exact this
    · intro a hI; simp [go_sem, mapU]
    · intro _; simp
    · have hml : ∀ (ts : List (List Int)) (n : Nat), (mapU n ts).length = ts.length := by
        intro ts; induction ts with
        | nil => intro n; rfl
        | cons t ts ih => intro n; simp [mapU, ih]
      have hdl : ∀ (r : List Int) (n : Nat), (datU m.data n r).length ≤ r.length := by
        intro r; induction r with
        | nil => intro n; simp [datU]
        | cons x r ih => intro n; have := ih (n + 1); simp only [datU, List.length_append, List.length_cons]; split <;> simp <;> omega
      simp [go_sem]
      refine loop_for (fun X => fin CX _ _ X = _) m.refs (fun n (a : List Update) => a.length ≤ 6 + n) (fun n a => ⟨SS [(1, .ptr [1] 0 0), (6, .ref [35] 0 a.length), (54, .sl 1 (m.refs.map (.int .i64))), (55, .int .i64 m.refs.length), (56, .int .i64 n)], HS [([1], ⟨true, 89, 4, [AV.agg [AV.sl 1 (List.map (AV.int .i64) m.refs), AV.sl 1 (List.map (AV.int .i64) m.tab), AV.sl 2 (List.map eSnp m.snaps), AV.sl 1 (List.map (AV.int .i64) m.data)]], none⟩), ([35], ⟨false, 187, 2, a.map eUpdate, none⟩)]⟩)
        (fun r n a => (.exit 4, ⟨SS [(6, .ref [35] 0 (a ++ datU m.data n r).length)], HS [([35], ⟨false, 187, 2, (a ++ datU m.data n r).map eUpdate, none⟩)]⟩)) (⟨9, superF m⟩ :: ⟨10, refsF m.refs⟩ :: mapU 0 (tabs m)) (by simp [hml, htl]; omega) ?_ ?_ ?_ ?_ ?_
      · simp [go_sem]
      · intro R n a x r hn hx hd hI hR
        have hx := hx hn
        have hnd : n < m.data.length := by omega
        have hnd' : (n : Int) < m.data.length := by omega
        have hxr : 0 ≤ x ∧ x ≤ 15 := by
          have := refs_at hr n
          rwa [List.getD_eq_getElem?_getD, List.getElem?_eq_getElem hn, Option.getD_some, hx] at this
        obtain ⟨y, hy⟩ : ∃ y, y = m.data[n] := ⟨_, rfl⟩
        have hyd : m.data.getD n 0 = y := by rw [List.getD_eq_getElem?_getD, List.getElem?_eq_getElem hnd, hy]; rfl
        have e7 := seal_E 4 [y] (by simp)
        simp only [List.map_cons, List.map_nil] at e7
        by_cases hx0 : 0 < x
        · have := hR (a ++ [⟨15 + n, sealF 4 [y]⟩]) (by simp; omega) (by simp only [datU, if_pos hx0, hyd, List.append_assoc])
          simp [go_sem, eUpdate] at this
          simp [go_sem, hn, hx, hx0, hnd, hnd', ← hy, e7, wrap_id (n := (n : Int) + 1) (by omega), wrap_id (n := 15 + (n : Int)) (by omega), show a.length + 1 ≤ 1073741824 by omega]
          exact this
        · have := hR a (by omega) (by simp [datU, hx0])
          simp [go_sem, eUpdate] at this
          simp [go_sem, hn, hx, hx0, hnd, hnd', wrap_id (n := (n : Int) + 1) (by omega)]
          exact this
      · intro a hI; simp [go_sem, datU]
      · intro _; simp
      · have := hdl m.refs 0
        simp [go_sem, upsF]
end Go.Proofs.YtdcgfapededocaaGreat



namespace Go.Proofs.YtdcgfapededocaaGreat
open Go
set_option maxRecDepth 100000
set_option maxHeartbeats 1000000
set_option linter.unusedSimpArgs false
set_option linter.unusedVariables false
theorem sNameU_E (t : Tx) (h : t.length ≤ 6) (hl : t.all isLow = true) : E CX 110 [.str t] [] = some { val := .int .i64 (nameF t) } := by
  refine E_fin Tryz.f110 _ an110 rfl rfl rfl Tryz.func110 rfl (by kernel_rfl) ?_
  have hb : ∀ b ∈ t, 97 ≤ b.toNat ∧ b.toNat ≤ 122 := by
    intro b hb; have := List.all_eq_true.1 hl b hb; simpa [isLow] using this
  simp [go_sem]
  refine loop_for (fun X => fin CX _ _ X = _) t (fun n (a : Int) => 0 ≤ a ∧ a < 27 ^ n ∧ n ≤ 6) (fun n a => ⟨SS [(0, .str t), (3, .int .i64 a), (4, .int .i64 n)], HE⟩) (fun r n a => (.exit 0, ⟨SS [(3, .int .i64 (nameN r a))], HE⟩)) 0 (by decide) ?_ ?_ ?_ ?_ ?_
  · simp [go_sem]
  · intro R n a b r hn hx hd hI hR
    have hx := hx hn
    obtain ⟨h1, h2⟩ := hb b (by rw [← hx]; exact List.getElem_mem _)
    obtain ⟨i1, i2, i3⟩ := hI
    have hp : (27 : Int) ^ n ≤ 27 ^ 6 := by
      have := Nat.pow_le_pow_right (n := 27) (by omega) i3
      exact_mod_cast this
    have hp2 : (27 : Int) ^ (n + 1) = 27 ^ n * 27 := Int.pow_succ _ _
    have := hR (27 * a + ((b.toNat : Int) - 97) + 1) ⟨by omega, by omega, by omega⟩ (by simp [nameN])
    simp [go_sem] at this
    simp [go_sem, hn, hx, wrap_byte, wrap_id (n := (n : Int) + 1) (by omega), wrap_id (n := 27 * a) (by omega), wrap_id (n := 27 * a + ((b.toNat : Int) - 97)) (by omega), wrap_id (n := 27 * a + ((b.toNat : Int) - 97) + 1) (by omega), u8_id (n := (b.toNat : Int) - 97) (by omega), wrap_id (n := (b.toNat : Int) - 97) (by omega)]
    exact this
  · intro _ _; simp [go_sem, nameN]
  · intro _; simp
  · simp [go_sem, nameF]
def pile (ys : List Int) (v : Int) : Int := ys.foldl (fun v y => 16 * v + y) v
theorem sEncode_E (l : List Int) (h : refsOK l = true) : E CX 214 [.sl 1 (l.map (.int .i64))] [] = some { val := .str (refsF l) } := by
  have h24 : l.length = 24 := by simp only [refsOK, Bool.and_eq_true, decide_eq_true_eq] at h; exact h.1
  have hb := refs_at h
  have hE := l02Seal_E 2 (sixes l) (by simp [sixes])
  have hd : ∀ n i, (l.drop n).getD i 0 = l.getD (n + i) 0 := by intro n i; simp [List.getD_eq_getElem?_getD, List.getElem?_drop]
  refine E_fin Tryz.f214 _ an214 rfl rfl rfl Tryz.func214 rfl (by kernel_rfl) ?_
  simp [go_sem]
  refine loop_for (fun X => fin CX _ _ X = _) (sixes l) (fun n (a : List Int) => a.length = n) (fun n a => ⟨SS [(0, .sl 1 (l.map (.int .i64))), (3, .ref [7] 0 a.length), (4, .int .i64 (6 * (n : Int)))], HS [([7], ⟨false, 3, 1, a.map (.int .i64), none⟩)]⟩)
    (fun r n a => (.exit 0, ⟨SS [(3, .ref [7] 0 (a ++ r).length)], HS [([7], ⟨false, 3, 1, (a ++ r).map (.int .i64), none⟩)]⟩)) [] (by simp) ?_ ?_ ?_ ?_ ?_
  · simp [go_sem]
  · rintro R n a x r hn hx hdr hI hR
    have hx := hx hn
    have hn4 : n < 4 := by simpa [sixes] using hn
    have := hR (a ++ [x]) (by simp; omega) (by simp)
    simp [go_sem] at this
    have hxs : x = pile [l.getD (6 * n + 5) 0, l.getD (6 * n + 4) 0, l.getD (6 * n + 3) 0, l.getD (6 * n + 2) 0, l.getD (6 * n + 1) 0, l.getD (6 * n + 0) 0] 0 := by
      have : n = 0 ∨ n = 1 ∨ n = 2 ∨ n = 3 := by omega
      rw [← hx]
      rcases this with rfl | rfl | rfl | rfl
      · simp only [sixes, List.getElem_cons_zero, six, pile, List.foldl, Nat.reduceMul, Nat.reduceAdd, Nat.mul_zero, Nat.mul_one]; omega
      · simp only [sixes, List.getElem_cons_succ, List.getElem_cons_zero, six, pile, List.foldl, hd, Nat.reduceMul, Nat.reduceAdd, Nat.mul_zero, Nat.mul_one]; omega
      · simp only [sixes, List.getElem_cons_succ, List.getElem_cons_zero, six, pile, List.foldl, hd, Nat.reduceMul, Nat.reduceAdd, Nat.mul_zero, Nat.mul_one]; omega
      · simp only [sixes, List.getElem_cons_succ, List.getElem_cons_zero, six, pile, List.foldl, hd, Nat.reduceMul, Nat.reduceAdd, Nat.mul_zero, Nat.mul_one]; omega
    simp [go_sem, show 6 * (n : Int) < 24 by omega]
    obtain ⟨ys, hys⟩ : ∃ ys, ys = [l.getD (6 * n + 5) 0, l.getD (6 * n + 4) 0, l.getD (6 * n + 3) 0, l.getD (6 * n + 2) 0, l.getD (6 * n + 1) 0, l.getD (6 * n + 0) 0] := ⟨_, rfl⟩
    rw [← hys] at hxs
    have hy6 : ys.length = 6 := by rw [hys]; rfl
    refine loop_for (fun X => Back (keepSt an214 0) _ R X) ys (fun j (v : Int) => 0 ≤ v ∧ v < 16 ^ j ∧ j ≤ 6) (fun j v => ⟨SS [(0, .sl 1 (l.map (.int .i64))), (3, .ref [7] 0 a.length), (4, .int .i64 (6 * (n : Int))), (5, .int .i64 v), (6, .int .i64 (5 - (j : Int)))], HS [([7], ⟨false, 3, 1, a.map (.int .i64), none⟩)]⟩)
      (fun r j v => (.exit 2, ⟨SS [(0, .sl 1 (l.map (.int .i64))), (3, .ref [7] 0 a.length), (4, .int .i64 (6 * (n : Int))), (5, .int .i64 (pile r v))], HS [([7], ⟨false, 3, 1, a.map (.int .i64), none⟩)]⟩)) 0 (by decide) ?_ ?_ ?_ ?_ ?_
    · simp [go_sem]
    · rintro R' j v y r' hj hy hdr' ⟨i1, i2, i3⟩ hR'
      have hy := hy hj
      have hj6 : j < 6 := by omega
      obtain ⟨q, hq⟩ : ∃ q, q = 6 * n + (5 - j) := ⟨_, rfl⟩
      have hyq : y = l.getD q 0 := by
        have : j = 0 ∨ j = 1 ∨ j = 2 ∨ j = 3 ∨ j = 4 ∨ j = 5 := by omega
        rw [← hy, hq]
        subst hys
        rcases this with rfl | rfl | rfl | rfl | rfl | rfl <;> rfl
      have hyb := hb q
      rw [← hyq] at hyb
      have hql : q < l.length := by omega
      have hyl : l[q] = y := by rw [hyq, List.getD_eq_getElem?_getD, List.getElem?_eq_getElem hql]; rfl
      have hp : (16 : Int) ^ j ≤ 16 ^ 6 := by
        have := Nat.pow_le_pow_right (n := 16) (by omega) i3
        exact_mod_cast this
      have hp2 : (16 : Int) ^ (j + 1) = 16 ^ j * 16 := Int.pow_succ _ _
      have := hR' (16 * v + y) ⟨by omega, by omega, by omega⟩ (by simp [pile])
      simp [go_sem] at this
      have w0 : IntKind.i64.wrap (6 * (n : Int) + (5 - (j : Int))) = (q : Int) := by rw [show 6 * (n : Int) + (5 - (j : Int)) = (q : Int) by omega]; exact wrap_id (by omega)
      have w3 : IntKind.i64.wrap (5 - (j : Int) - 1) = 5 - ((j : Int) + 1) := by rw [show 5 - (j : Int) - 1 = 5 - ((j : Int) + 1) by omega]; exact wrap_id (by omega)
      simp [go_sem, show (j : Int) ≤ 5 by omega, w0, w3, hql, hyl, wrap_id (n := 16 * v) (by omega), wrap_id (n := 16 * v + y) (by omega)]
      exact this
    · intro b hJ; simp [go_sem, hy6, pile]
    · intro _; simp
    · rw [← hxs]
      simp [go_sem, wrap_id (n := 6 * (n : Int) + 6) (by omega), show a.length + 1 ≤ 1073741824 by omega]
      rw [show 6 * ((n : Int) + 1) = 6 * (n : Int) + 6 by omega] at this
      exact this
  · intro a hI; simp [go_sem, sixes]
  · intro _; simp
  · simp only [sixes, List.map_cons, List.map_nil] at hE
    simp [go_sem, sixes, hE, refsF]
theorem sEncT_E (t : List Int) (h : t.length ≤ 1000) : E CX 215 [.sl 1 (t.map (.int .i64))] [] = some { val := .str (sealF 3 t) } := by
  refine E_fin Tryz.f215 _ an215 rfl rfl rfl Tryz.func215 rfl (by kernel_rfl) ?_
  simp [go_sem, l02Seal_E 3 t h]
theorem sSuper_E (m : Img) (h : layOK m) : E CX 213 [eImg m] [] = some { val := .str (superF m) } := by
  obtain ⟨hr, hs, hnm, ht, hd0⟩ := h
  have e5 := l02Seal_E 1 ((m.snaps.length : Int) :: m.snaps.map fun x => nameF x.name) (by simp; omega)
  refine E_fin Tryz.f213 _ an213 rfl rfl rfl Tryz.func213 rfl (by kernel_rfl) ?_
  simp [go_sem, eImg]
  refine loop_for (fun X => fin CX _ _ X = _) m.snaps (fun n (a : List Int) => a.length = n + 1) (fun n a => ⟨SS [(1, .ptr [1] 0 0), (3, .ref [8] 0 a.length), (4, .int .i64 n)], HS [([1], ⟨true, 89, 4, [AV.agg [AV.sl 1 (List.map (AV.int .i64) m.refs), AV.sl 1 (List.map (AV.int .i64) m.tab), AV.sl 2 (List.map eSnp m.snaps), AV.sl 1 (List.map (AV.int .i64) m.data)]], none⟩), ([8], ⟨false, 3, 1, a.map (.int .i64), none⟩)]⟩)
    (fun r n a => (.exit 0, ⟨SS [(3, .ref [8] 0 (a ++ r.map fun x => nameF x.name).length)], HS [([8], ⟨false, 3, 1, (a ++ r.map fun x => nameF x.name).map (.int .i64), none⟩)]⟩)) [(m.snaps.length : Int)] (by simp) ?_ ?_ ?_ ?_ ?_
  · simp [go_sem]
  · intro R n a x r hn hx hd hI hR
    have hx := hx hn
    have hxm : x ∈ m.snaps := by rw [← hx]; exact List.getElem_mem _
    have e4 := sNameU_E x.name (hnm x hxm).1 (hnm x hxm).2
    have := hR (a ++ [nameF x.name]) (by simp; omega) (by simp)
    simp [go_sem] at this
    simp [go_sem, hn, hx, eSnp, e4, wrap_id (n := (n : Int) + 1) (by omega), show a.length + 1 ≤ 1073741824 by omega]
    exact this
  · intro a hI; simp [go_sem]
  · intro _; simp
  · simp only [List.map_cons, List.map_map] at e5
    simp [go_sem, e5, superF]
theorem sAll_E (m : Img) (h : layOK m) : E CX 177 [eImg m] [] = some { val := .ref [0, 0, 0, 0] 0 (upsF m).length, own := [⟨false, 187, 2, (upsF m).map eUpdate, none⟩] } := by
  have e1 := sSuper_E m h
  obtain ⟨hr, hs, hnm, ht, hd0⟩ := h
  have e2 := sEncode_E m.refs hr
  have e3 := sEncT_E m.tab (by have := ht m.tab (by simp [tabs]); omega)
  have hr24 : m.refs.length = 24 := by simp only [refsOK, Bool.and_eq_true, decide_eq_true_eq] at hr; exact hr.1
  have hml : ∀ (ts : List (List Int)) (n : Nat), (mapU n ts).length = ts.length := by
    intro ts; induction ts with
    | nil => intro n; rfl
    | cons t ts ih => intro n; simp [mapU, ih]
  refine E_fin Tryz.f177 _ an177 rfl rfl rfl Tryz.func177 rfl (by kernel_rfl) ?_
  simp only [eImg] at e1 ⊢
  simp [go_sem, e1, e2, e3]
  refine loop_for (fun X => fin CX _ _ X = _) m.snaps (fun n (a : List Update) => a.length = n + 3) (fun n a => ⟨SS [(1, .ptr [1] 0 0), (3, .ref [17] 0 a.length), (4, .int .i64 n)], HS [([1], ⟨true, 89, 4, [AV.agg [AV.sl 1 (List.map (AV.int .i64) m.refs), AV.sl 1 (List.map (AV.int .i64) m.tab), AV.sl 2 (List.map eSnp m.snaps), AV.sl 1 (List.map (AV.int .i64) m.data)]], none⟩), ([17], ⟨false, 187, 2, a.map eUpdate, none⟩)]⟩)
    (fun r n a => (.exit 0, ⟨SS [(1, .ptr [1] 0 0), (3, .ref [17] 0 (a ++ mapU (n + 1) (r.map Snp.tab)).length)], HS [([1], ⟨true, 89, 4, [AV.agg [AV.sl 1 (List.map (AV.int .i64) m.refs), AV.sl 1 (List.map (AV.int .i64) m.tab), AV.sl 2 (List.map eSnp m.snaps), AV.sl 1 (List.map (AV.int .i64) m.data)]], none⟩), ([17], ⟨false, 187, 2, (a ++ mapU (n + 1) (r.map Snp.tab)).map eUpdate, none⟩)]⟩)) [⟨9, superF m⟩, ⟨10, refsF m.refs⟩, ⟨11, sealF 3 m.tab⟩] (by simp) ?_ ?_ ?_ ?_ ?_
  · simp [go_sem, eUpdate]
  · intro R n a x r hn hx hd hI hR
    have hx := hx hn
    have hxm : x ∈ m.snaps := by rw [← hx]; exact List.getElem_mem _
    have e6 := sEncT_E x.tab (by have := ht x.tab (by simp only [tabs, List.mem_cons, List.mem_map]; exact .inr ⟨x, hxm, rfl⟩); omega)
    have := hR (a ++ [⟨12 + n, sealF 3 x.tab⟩]) (by simp; omega) (by simp only [List.map_cons, mapU, List.append_assoc]; rw [show (11 : Int) + ((n + 1 : Nat) : Int) = 12 + (n : Int) by omega]; rfl)
    simp [go_sem, eUpdate] at this
    simp [go_sem, hn, hx, eSnp, e6, wrap_id (n := (n : Int) + 1) (by omega), wrap_id (n := 12 + (n : Int)) (by omega), show a.length + 1 ≤ 1073741824 by omega]
    exact this
  · intro a hI; simp [go_sem, mapU]
  · intro _; simp
  · simp [go_sem]
    refine loop_for (fun X => fin CX _ _ X = _) m.refs (fun n (a : List Update) => a.length ≤ 6 + n) (fun n a => ⟨SS [(1, .ptr [1] 0 0), (3, .ref [17] 0 a.length), (5, .int .i64 n)], HS [([1], ⟨true, 89, 4, [AV.agg [AV.sl 1 (List.map (AV.int .i64) m.refs), AV.sl 1 (List.map (AV.int .i64) m.tab), AV.sl 2 (List.map eSnp m.snaps), AV.sl 1 (List.map (AV.int .i64) m.data)]], none⟩), ([17], ⟨false, 187, 2, a.map eUpdate, none⟩)]⟩)
      (fun r n a => (.exit 2, ⟨SS [(3, .ref [17] 0 (a ++ datU m.data n r).length)], HS [([17], ⟨false, 187, 2, (a ++ datU m.data n r).map eUpdate, none⟩)]⟩)) (⟨9, superF m⟩ :: ⟨10, refsF m.refs⟩ :: ⟨11, sealF 3 m.tab⟩ :: mapU 1 (m.snaps.map Snp.tab)) (by simp [hml]; omega) ?_ ?_ ?_ ?_ ?_
    · simp [go_sem]
    · intro R n a x r hn hx hd hI hR
      have hx := hx hn
      have hnd : n < m.data.length := by omega
      have hnd' : (n : Int) < m.data.length := by omega
      have hn24 : (n : Int) < 24 := by omega
      obtain ⟨y, hy⟩ : ∃ y, y = m.data[n] := ⟨_, rfl⟩
      have hyd : m.data.getD n 0 = y := by rw [List.getD_eq_getElem?_getD, List.getElem?_eq_getElem hnd, hy]; rfl
      have e7 := l02Seal_E 4 [y] (by simp)
      simp only [List.map_cons, List.map_nil] at e7
      by_cases hx0 : 0 < x
      · have := hR (a ++ [⟨15 + n, sealF 4 [y]⟩]) (by simp; omega) (by simp only [datU, if_pos hx0, hyd, List.append_assoc])
        simp [go_sem, eUpdate] at this
        simp [go_sem, hn, hn24, hx, hx0, hnd, hnd', ← hy, e7, wrap_id (n := (n : Int) + 1) (by omega), wrap_id (n := 15 + (n : Int)) (by omega), show a.length + 1 ≤ 1073741824 by omega]
        exact this
      · have := hR a (by omega) (by simp [datU, hx0])
        simp [go_sem, eUpdate] at this
        simp [go_sem, hn, hn24, hx, hx0, hnd, hnd', wrap_id (n := (n : Int) + 1) (by omega)]
        exact this
    · intro a hI; simp [go_sem, datU, hr24]
    · intro _; simp
    · simp [go_sem, upsF, tabs, mapU]
end Go.Proofs.YtdcgfapededocaaGreat



namespace Go.Proofs.YtdcgfapededocaaGreat
open Go
set_option maxRecDepth 100000
set_option maxHeartbeats 1000000
set_option linter.unusedSimpArgs false
set_option linter.unusedVariables false
def zImg (n : Nat) : Img := ⟨List.replicate 24 0, List.replicate n 0, [], List.replicate 24 0⟩
theorem zImg_lay (n : Nat) (h : n ≤ 12) : layOK (zImg n) := by
  refine ⟨by rfl, by simp [zImg], by simp [zImg], ?_, by simp [zImg]⟩
  intro t ht
  simp [zImg, tabs] at ht
  subst ht; simpa using h
theorem upsF_z (n : Nat) : upsF (zImg n) = [⟨9, superF (zImg n)⟩, ⟨10, refsF (List.replicate 24 0)⟩, ⟨11, sealF 3 (List.replicate n 0)⟩] := by
  unfold upsF
  simp only [zImg, tabs, List.map_nil, mapU]
  rfl
theorem isSizeU_E (n : Int) : E CX 58 [.int .i64 n] [] = some { val := .bool (inn n 0 12) } := by
  refine E_fin Tryz.f58 _ an58 rfl rfl rfl Tryz.func58 rfl (by kernel_rfl) ?_
  simp [go_sem, within_E]
def zrow (n : Nat) : Blk := ⟨false, 3, 1, List.replicate n (.int .i64 0), none⟩
theorem newImageU_E (n : Nat) (h : n ≤ 12) : E CX 182 [.int .i64 n] [] = some { val := .agg [.ref [0, 0, 0, 0] 0 24, .ref [1, 0, 0, 0] 0 n, .nil, .ref [2, 0, 0, 0] 0 24], own := [zrow 24, zrow n, zrow 24] } := by
  refine E_fin Tryz.f182 _ an182 rfl rfl rfl Tryz.func182 rfl (by kernel_rfl) ?_
  simp [go_sem, -List.reduceReplicate, show n ≤ 1073741824 by omega, show (n : Int) ≤ 1073741824 by omega, show 8 * (n : Int) ≤ 140737488355328 by omega, show (n : Int) < 9223372036854775808 by omega, zrow]
theorem sNewU_E (n : Nat) (h : n ≤ 12) : E CX 178 [.int .i64 n] [] = some { val := .agg [.ref [0, 0, 0, 0] 0 24, .ref [1, 0, 0, 0] 0 n, .ref [2, 0, 0, 0] 0 0, .ref [3, 0, 0, 0] 0 24], own := [zrow 24, zrow n, ⟨false, 145, 2, [], none⟩, zrow 24] } := by
  refine E_fin Tryz.f178 _ an178 rfl rfl rfl Tryz.func178 rfl (by kernel_rfl) ?_
  simp [go_sem, -List.reduceReplicate, show n ≤ 1073741824 by omega, show (n : Int) ≤ 1073741824 by omega, show 8 * (n : Int) ≤ 140737488355328 by omega, show (n : Int) < 9223372036854775808 by omega, zrow]
def formM (n : Nat) : List Move := (upsF (zImg n)).map (fun u => ⟨1, u.at_, u.data⟩) ++ [⟨2, 0, []⟩]
def formC (d : Disk) (h size : Int) : Int := firstP [(askC d h != 0, askC d h), (!inn size 0 12, 4)]
theorem formM_at (n : Nat) : ∀ m ∈ formM n, m.kind ≠ 2 → 0 ≤ m.at_ ∧ m.at_.toNat < 64 := by
  unfold formM
  rw [upsF_z]
  intro m hm
  simp only [List.map_cons, List.map_nil, List.cons_append, List.nil_append, List.mem_cons, List.not_mem_nil, or_false] at hm
  rcases hm with rfl | rfl | rfl | rfl <;> simp
theorem formM_len (n : Nat) : (formM n).length = 4 := by unfold formM; rw [upsF_z]; rfl
theorem adds_good (h : Int) : ∀ (us : List Update) (d : Disk) (n : Nat), Good d n → (∀ u ∈ us, 0 ≤ u.at_ ∧ u.at_.toNat < 64) → Good (us.foldl (fun (x : Disk) u => ⟨x.ss, x.ps ++ [⟨h, u.at_, u.data⟩]⟩) d) (n + us.length) := by
  intro us
  induction us with
  | nil => intro d n g _; exact g
  | cons u us ih =>
    intro d n g hu
    have := ih ⟨d.ss, d.ps ++ [⟨h, u.at_, u.data⟩]⟩ (n + 1) ⟨g.ss, by have := g.ps; simp; omega, by
      intro x hx
      simp only [List.mem_append, List.mem_singleton] at hx
      rcases hx with hx | rfl
      · exact g.at_ x hx
      · exact hu u (by simp)⟩ (fun v hv => hu v (by simp [hv]))
    rw [show n + (u :: us).length = n + 1 + us.length by simp; omega]
    exact this
section
variable (d : Disk) (h size : Int)
theorem format_done (n : Nat) (hn : n ≤ 12) (hs : size = n) (h1 : d.ss.length ≤ 1073741824) (h2 : d.ps.length ≤ 1073741824) (hc : formC d h size = 0) (hf : d.ps.length + 3 ≤ 200) (g : Good d 1000000) :
    E CX 129 [eDisk d, .int .i64 h, .int .i64 size] [] = some { val := .tuple [.agg [.ref [0, 0, 0, 0] 0 ((formM n).foldl (mvT h) (d, [])).1.ss.length, .ref [1, 0, 0, 0] 0 ((formM n).foldl (mvT h) (d, [])).1.ps.length], .int .i64 0], own := [⟨false, 9, 1, ((formM n).foldl (mvT h) (d, [])).1.ss.map .str, none⟩, ⟨false, 105, 3, (((formM n).foldl (mvT h) (d, [])).1.ps ++ ((formM n).foldl (mvT h) (d, [])).2).map eIo, none⟩] } := by
  subst hs
  have hl := formM_len n
  have e2 := codes_E d h h1 h2
  have e5 := moved_E d h (formM n) g (by omega) (formM_at n)
  have e6 := newImageU_E n hn
  have e7 := updatesM_E (zImg n) (zImg_lay n hn)
  generalize hr : (formM n).foldl (mvT h) (d, []) = r at *
  have hF : formM n = (upsF (zImg n)).map (fun u => ⟨1, u.at_, u.data⟩) ++ [⟨2, 0, []⟩] := rfl
  have h3 : (upsF (zImg n)).length = 3 := by rw [upsF_z]; rfl
  rw [hF] at e5
  clear hr hF hl
  simp only [zImg, eImg, List.map_nil] at e7
  have hz : (⟨List.replicate 24 0, List.replicate n 0, [], List.replicate 24 0⟩ : Img) = zImg n := rfl
  rw [hz] at e7
  clear hz
  generalize upsF (zImg n) = us at *
  refine E_fin Tryz.f129 _ an129 rfl rfl rfl Tryz.func129 rfl (by kernel_rfl) ?_
  simp only [eDisk] at e2 e5
  have e4 := first_E [(askC d h != 0, askC d h), (!inn (n : Int) 0 12, 4)] (by simp)
  simp only [anys] at e4
  unfold formC at hc
  rw [hc] at e4
  simp [go_sem, eDisk, e2, isSizeU_E]
  try simp at e4
  try simp at e5
  simp [-List.reduceReplicate] at e7
  simp [go_sem, e4, wrap_id (n := (d.ps.length : Int) + 3) (by omega), show ¬ (200 : Int) < d.ps.length + 3 by omega, e6, zrow, e7, -List.reduceReplicate]
  refine loop_for (fun X => fin CX _ _ X = _) us (fun n (a : List Move) => a.length = n) (fun n a => ⟨SS [(1, .int .i64 h), (3, .ptr [3] 0 0), (6, .ptr [6] 0 0), (9, .ref [39] 0 a.length), (42, .sl 2 (us.map eUpdate)), (43, .int .i64 us.length), (44, .int .i64 n)],
      HS [([3], ⟨true, 41, 2, [.agg [.sl 1 (d.ss.map .str), .sl 3 (d.ps.map eIo)]], none⟩), ([6], ⟨true, 41, 2, [.agg [.nil, .nil]], none⟩), ([39], ⟨false, 192, 3, a.map eMove, none⟩)]⟩)
    (fun r n a => (.exit 0, ⟨SS [(1, .int .i64 h), (3, .ptr [3] 0 0), (6, .ptr [6] 0 0), (9, .ref [39] 0 (a ++ r.map fun u => ⟨1, u.at_, u.data⟩ : List Move).length)],
      HS [([3], ⟨true, 41, 2, [.agg [.sl 1 (d.ss.map .str), .sl 3 (d.ps.map eIo)]], none⟩), ([6], ⟨true, 41, 2, [.agg [.nil, .nil]], none⟩), ([39], ⟨false, 192, 3, (a ++ r.map fun u => ⟨1, u.at_, u.data⟩ : List Move).map eMove, none⟩)]⟩)) [] (by simp) ?_ ?_ ?_ ?_ ?_
  · simp [go_sem]
  · intro R n a u r hn hx hd hI hR
    have hx := hx hn
    have := hR (a ++ [⟨1, u.at_, u.data⟩]) (by simp; omega) (by simp)
    simp [go_sem, eMove] at this
    simp [go_sem, hn, hx, eUpdate, wrap_id (n := (n : Int) + 1) (by omega), show a.length + 1 ≤ 1073741824 by omega]
    exact this
  · intro a hI; simp [go_sem]
  · intro _; simp
  · have e8 : eMove ⟨2, 0, []⟩ = .agg [.int .i64 2, .int .i64 0, .str []] := rfl
    rw [e8] at e5
    simp [go_sem, h3, e5]
theorem sFormatL_E (n : Nat) (hn : n ≤ 12) (g : Good d 900000) : E CX 127 [eDisk d, .int .i64 h, .int .i64 n] [] = some { val := eDisk ((formM n).foldl (mvS h) d) } := by
  have e6 := sNewU_E n hn
  have e7 := sAll_E (zImg n) (zImg_lay n hn)
  have gd := moves_good h (formM n) d 900000 g (formM_at n)
  have hF : (formM n).foldl (mvS h) d = settleD ((upsF (zImg n)).foldl (fun (x : Disk) u => ⟨x.ss, x.ps ++ [⟨h, u.at_, u.data⟩]⟩) d) h 200 false := by
    unfold formM
    rw [List.foldl_append, List.foldl_map]
    rfl
  have hus : ∀ u ∈ upsF (zImg n), 0 ≤ u.at_ ∧ u.at_.toNat < 64 := by
    rw [upsF_z]
    intro u hu
    simp only [List.mem_cons, List.not_mem_nil, or_false] at hu
    rcases hu with rfl | rfl | rfl <;> simp
  rw [hF]
  have h3 : (upsF (zImg n)).length = 3 := by rw [upsF_z]; rfl
  clear hF gd
  simp only [zImg, eImg, List.map_nil] at e7
  have hz : (⟨List.replicate 24 0, List.replicate n 0, [], List.replicate 24 0⟩ : Img) = zImg n := rfl
  rw [hz] at e7
  clear hz
  generalize upsF (zImg n) = us at *
  simp [-List.reduceReplicate] at e7
  refine E_fin Tryz.f127 _ an127 rfl rfl rfl Tryz.func127 rfl (by kernel_rfl) ?_
  simp [go_sem, eDisk, e6, zrow, e7, -List.reduceReplicate]
  refine loop_for (fun X => fin CX _ _ X = _) us (fun n (a : Disk) => Good a (900000 + n)) (fun n a => ⟨SS [(1, .int .i64 h), (3, .ptr [3] 0 0), (6, .ptr [6] 0 0), (7, .sl 2 (us.map eUpdate)), (8, .int .i64 n)],
      HS [([3], ⟨true, 41, 2, [.agg [.sl 1 (a.ss.map .str), .sl 3 (a.ps.map eIo)]], none⟩), ([6], ⟨true, 41, 2, [.agg [.nil, .nil]], none⟩)]⟩)
    (fun r n a => (.exit 0, ⟨SS [(1, .int .i64 h), (3, .ptr [3] 0 0), (6, .ptr [6] 0 0)],
      HS [([3], ⟨true, 41, 2, [.agg [.sl 1 ((r.foldl (fun (x : Disk) u => ⟨x.ss, x.ps ++ [⟨h, u.at_, u.data⟩]⟩) a).ss.map .str), .sl 3 ((r.foldl (fun (x : Disk) u => ⟨x.ss, x.ps ++ [⟨h, u.at_, u.data⟩]⟩) a).ps.map eIo)]], none⟩), ([6], ⟨true, 41, 2, [.agg [.nil, .nil]], none⟩)]⟩)) d g ?_ ?_ ?_ ?_ ?_
  · simp [go_sem]
  · intro R n a u r hn hx hd hI hR
    have hx := hx hn
    have hI2 := hI.ps
    have hum := hus u (by rw [← hx]; exact List.getElem_mem hn)
    have e2 := l01Write_E a ⟨h, u.at_, u.data⟩ (by omega)
    simp only [eDisk, eIo] at e2
    have := hR ⟨a.ss, a.ps ++ [⟨h, u.at_, u.data⟩]⟩ (by
      refine ⟨hI.ss, by simp; omega, ?_⟩
      intro x hx
      simp only [List.mem_append, List.mem_singleton] at hx
      rcases hx with hx | rfl
      · exact hI.at_ x hx
      · exact hum) (by simp)
    simp [go_sem, eIo] at this
    simp at e2
    simp [go_sem, hn, hx, eUpdate, e2, eIo, wrap_id (n := (n : Int) + 1) (by omega)]
    exact this
  · intro a hI
    simp [go_sem]
  · intro _; simp
  · have hgood : Good (us.foldl (fun (x : Disk) u => ⟨x.ss, x.ps ++ [⟨h, u.at_, u.data⟩]⟩) d) 1000000000 := by
      have := adds_good h us d 900000 g hus
      exact ⟨this.ss, by have := this.ps; omega, this.at_⟩
    have e9 := l01Flush_E _ h hgood
    generalize us.foldl (fun (x : Disk) u => ⟨x.ss, x.ps ++ [⟨h, u.at_, u.data⟩]⟩) d = y at *
    simp only [eDisk] at e9
    simp [go_sem, e9]
end
end Go.Proofs.YtdcgfapededocaaGreat



namespace Go.Proofs.YtdcgfapededocaaGreat
open Go
set_option maxRecDepth 100000
set_option maxHeartbeats 1000000
set_option linter.unusedSimpArgs false
set_option linter.unusedVariables false
theorem moves_alike' (h : Int) (n : Nat) (d : Disk) (hl : d.ps.length + 3 ≤ 200) : ((formM n).foldl (mvT h) (d, [])).1 = (formM n).foldl (mvS h) d := by
  unfold formM
  rw [upsF_z, List.foldl_append, List.foldl_append]
  generalize hw : List.map (fun u : Update => (⟨1, u.at_, u.data⟩ : Move)) [⟨9, superF (zImg n)⟩, ⟨10, refsF (List.replicate 24 0)⟩, ⟨11, sealF 3 (List.replicate n 0)⟩] = ws
  have e := moves_alike h ws d [] (by rw [← hw]; simp; omega)
  have hlen : (ws.foldl (mvS h) d).ps.length ≤ 200 := by
    rw [← hw]; simp [mvS]; omega
  simp only [List.foldl_cons, List.foldl_nil, mvT, mvS, if_true]
  rw [e]
  exact settle_room _ h 400 200 false (by omega) (by omega)
section
variable (d : Disk) (h size : Int)
end
end Go.Proofs.YtdcgfapededocaaGreat



namespace Go.Proofs.YtdcgfapededocaaGreat
open Go
set_option maxRecDepth 100000
set_option maxHeartbeats 2000000
set_option linter.unusedSimpArgs false
set_option linter.unusedVariables false
def zHost : Host := ⟨0, 0, 0⟩
def nW (r : Disk) (c : Config) (n : Nat) : Wld := ⟨r, c, [zHost, zHost, zHost, zHost], 0, ⟨List.replicate n 0, []⟩, ⟨0, 0, 0, []⟩, true⟩
theorem newGuest_E (n : Nat) (hn : n ≤ 12) : E CX 131 [.int .i64 n] [] = some { val := .tuple [.agg [.ref [0, 0, 0, 0] 0 n, .nil], .int .i64 0], own := [⟨false, 3, 1, List.replicate n (.int .i64 0), none⟩] } := by
  have e := isSizeU_E n
  have : inn (n : Int) 0 12 = true := by simp [inn]; omega
  rw [this] at e
  refine E_fin Tryz.f131 _ an131 rfl rfl rfl Tryz.func131 rfl (by kernel_rfl) ?_
  simp [go_sem, e, show n ≤ 1073741824 by omega, show (n : Int) ≤ 1073741824 by omega, show 8 * (n : Int) ≤ 140737488355328 by omega, show (n : Int) < 9223372036854775808 by omega]
theorem sNewGuest_E (n : Nat) (hn : n ≤ 12) : E CX 126 [.int .i64 n] [] = some { val := .tuple [.agg [.ref [0, 0, 0, 0] 0 n, .ref [1, 0, 0, 0] 0 0], .int .i64 0], own := [⟨false, 3, 1, List.replicate n (.int .i64 0), none⟩, ⟨false, 110, 2, [], none⟩] } := by
  have : inn (n : Int) 0 12 = true := by simp [inn]; omega
  refine E_fin Tryz.f126 _ an126 rfl rfl rfl Tryz.func126 rfl (by kernel_rfl) ?_
  simp [go_sem, l01In_E, this, show n ≤ 1073741824 by omega, show (n : Int) ≤ 1073741824 by omega, show 8 * (n : Int) ≤ 140737488355328 by omega, show (n : Int) < 9223372036854775808 by omega]
def d64n : Disk := ⟨List.replicate 64 [], []⟩
theorem d64n_good (k : Nat) : Good d64n k := ⟨by simp [d64n], by simp [d64n], by simp [d64n]⟩
def fD (n : Nat) : Disk := ((formM n).foldl (mvT 0) (d64n, [])).1
def fT (n : Nat) : List Io := ((formM n).foldl (mvT 0) (d64n, [])).2
theorem fD_s (n : Nat) : fD n = (formM n).foldl (mvS 0) d64n := moves_alike' 0 n d64n (by simp [d64n])
theorem fD_good (n : Nat) : Good (fD n) 900004 := by
  rw [fD_s]
  have := moves_good 0 (formM n) d64n 900000 (d64n_good _) (formM_at n)
  rwa [formM_len] at this
theorem fmt_E (n : Nat) (hn : n ≤ 12) : E CX 129 [eDisk d64n, .int .i64 0, .int .i64 n] [] = some { val := .tuple [.agg [.ref [0, 0, 0, 0] 0 (fD n).ss.length, .ref [1, 0, 0, 0] 0 (fD n).ps.length], .int .i64 0], own := [⟨false, 9, 1, (fD n).ss.map .str, none⟩, ⟨false, 105, 3, ((fD n).ps ++ fT n).map eIo, none⟩] } := by
  have hc : formC d64n 0 n = 0 := by
    have h1 : inn (n : Int) 0 12 = true := by simp [inn]; omega
    have h2 : askC d64n 0 = 0 := by decide
    simp [formC, h1, h2, firstP]
  exact format_done d64n 0 n n hn rfl (by simp [d64n]) (by simp [d64n]) hc (by simp [d64n]) (d64n_good _)
def zrW : Blk := ⟨false, 72, 3, [eHost zHost, eHost zHost, eHost zHost, eHost zHost], none⟩
theorem newWorld_E (c : Config) (n : Nat) (hn : n ≤ 12) : E CX 59 [eConfig c, .int .i64 n] [] = some { val := .agg [.ref [0, 0, 0, 0] 0 (fD n).ss.length, .ref [1, 0, 0, 0] 0 (fD n).ps.length, .int .i64 c.fail, .int .i64 c.dead, .int .i64 c.delay, .int .i64 c.drift, .ref [2, 0, 0, 0] 0 4, .int .i64 0, .ref [3, 0, 0, 0] 0 n, .nil, .int .i64 0, .int .i64 0, .int .i64 0, .str [], .bool true], own := [⟨false, 9, 1, (fD n).ss.map .str, none⟩, ⟨false, 105, 3, ((fD n).ps ++ fT n).map eIo, none⟩, zrW, ⟨false, 3, 1, List.replicate n (.int .i64 0), none⟩] } := by
  have e1 := newDisk_E
  have e2 := fmt_E n hn
  have e3 := newGuest_E n hn
  have hE : (d64n.ss.map AV.str) = List.replicate 64 (.str []) := rfl
  have hP : d64n.ps.map eIo = [] := rfl
  simp only [eDisk, hE, hP] at e2
  refine E_fin Tryz.f59 _ an59 rfl rfl rfl Tryz.func59 rfl (by kernel_rfl) ?_
  simp [go_sem, eConfig, e1, e2, e3, zrW, eHost, zHost, -List.reduceReplicate]
  rfl
theorem sNewWorld_E (c : Config) (n : Nat) (hn : n ≤ 12) : E CX 57 [eConfig c, .int .i64 n] [] = some { val := .agg [.sl 1 ((fD n).ss.map .str), .sl 3 ((fD n).ps.map eIo), .int .i64 c.fail, .int .i64 c.dead, .int .i64 c.delay, .int .i64 c.drift, .ref [0, 0, 0, 0] 0 4, .int .i64 0, .sl 1 (List.replicate n (.int .i64 0)), .sl 2 [], .int .i64 0, .int .i64 0, .int .i64 0, .str [], .bool true], own := [zrW] } := by
  have e1 := l01New_E
  have e2 := sFormatL_E d64n 0 n hn (d64n_good _)
  rw [← fD_s] at e2
  have e3 := sNewGuest_E n hn
  have hE : (d64n.ss.map AV.str) = List.replicate 64 (.str []) := rfl
  have hP : d64n.ps.map eIo = [] := rfl
  simp only [eDisk, hE, hP] at e2
  refine E_fin Tryz.f57 _ an57 rfl rfl rfl Tryz.func57 rfl (by kernel_rfl) ?_
  simp [go_sem, eConfig, e1, e2, e3, zrW, eHost, zHost, -List.reduceReplicate]
  rfl
theorem nW_B (c : Config) (n : Nat) (hn : n ≤ 12) : WldB (nW (fD n) c n) := by
  have g := fD_good n
  have g1 := g.ss; have g2 := g.ps
  exact ⟨by simp only [nW]; omega, by simp only [nW]; omega, by simp [nW], ⟨by simp [nW]; omega, by simp [nW], by simp [nW], by simp [nW]⟩, by simp [nW]⟩
end Go.Proofs.YtdcgfapededocaaGreat



namespace Go.Proofs.YtdcgfapededocaaGreat
open Go
set_option maxRecDepth 100000
set_option maxHeartbeats 1000000
set_option linter.unusedSimpArgs false
set_option linter.unusedVariables false
/-! Configs. -/
def cfgB (c : Config) : Bool := inn c.fail 1 10000 && inn c.dead 1 100000 && inn c.delay 0 1000 && inn c.drift 0 500
def latF (drift loc : Int) : Int := ((loc + 1) * 1000 + 999 - drift) / (1000 - drift)
def earF (drift loc : Int) : Int := (loc - 1) * 1000 / (1000 + drift)
def cfgOK (c : Config) : Bool := cfgB c && decide (latF c.drift c.fail + c.delay < earF c.drift c.dead)
theorem ceil_eq (A D : Int) (hD : 0 < D) : A / D + min (A % D) 1 = (A + (D - 1)) / D := by
  have h := Int.mul_ediv_add_emod A D
  have r0 := Int.emod_nonneg A (show D ≠ 0 by omega)
  have r1 := Int.emod_lt_of_pos A hD
  have e : A + (D - 1) = (A % D + (D - 1)) + D * (A / D) := by omega
  rw [e, Int.add_mul_ediv_left _ _ (by omega)]
  generalize A % D = r at *
  by_cases hr : r = 0
  · subst hr
    have h0 : (0 + (D - 1)) / D = 0 := Int.ediv_eq_zero_of_lt (by omega) (by omega)
    rw [h0]; omega
  · have : (r + (D - 1)) / D = 1 := by
      rw [show r + (D - 1) = (r - 1) + D * 1 by omega, Int.add_mul_ediv_left _ _ (by omega), Int.ediv_eq_zero_of_lt (by omega) (by omega)]; rfl
    rw [this]; omega
theorem right_E (c : Config) : E CX 86 [eConfig c] [] = some { val := .bool (cfgB c) } := by
  unfold cfgB
  refine E_fin Tryz.f86 _ an86 rfl rfl rfl Tryz.func86 rfl (by kernel_rfl) ?_
  cases c1 : inn c.fail 1 10000
  · simp [go_sem, eConfig, within_E, c1]
  cases c2 : inn c.dead 1 100000
  · simp [go_sem, eConfig, within_E, c1, c2]
  cases c3 : inn c.delay 0 1000
  · simp [go_sem, eConfig, within_E, c1, c2, c3]
  simp [go_sem, eConfig, within_E, c1, c2, c3]
theorem latest_E (c : Config) (loc : Int) (h : 0 ≤ c.drift ∧ c.drift ≤ 500) (hl : 0 ≤ loc ∧ loc ≤ 1000000) : E CX 87 [eConfig c, .int .i64 loc] [] = some { val := .int .i64 (latF c.drift loc) } := by
  obtain ⟨a, b, d, dr⟩ := c
  simp only at h
  unfold latF
  have hc := ceil_eq ((loc + 1) * 1000) (1000 - dr) (by omega)
  have e0 : (loc + 1) * 1000 + 999 - dr = (loc + 1) * 1000 + (1000 - dr - 1) := by omega
  have e1 : ((loc + 1) * 1000).tdiv (1000 - dr) = (loc + 1) * 1000 / (1000 - dr) := Int.tdiv_eq_ediv_of_nonneg (by omega)
  have e2 : ((loc + 1) * 1000).tmod (1000 - dr) = (loc + 1) * 1000 % (1000 - dr) := Int.tmod_eq_emod_of_nonneg (by omega)
  have q0 : 0 ≤ (loc + 1) * 1000 / (1000 - dr) := Int.ediv_nonneg (by omega) (by omega)
  have q1 : (loc + 1) * 1000 / (1000 - dr) ≤ (loc + 1) * 1000 := Int.ediv_le_self _ (by omega)
  have r0 := Int.emod_nonneg ((loc + 1) * 1000) (show 1000 - dr ≠ 0 by omega)
  have r1 := Int.emod_lt_of_pos ((loc + 1) * 1000) (show 0 < 1000 - dr by omega)
  rw [e0, ← hc]
  refine E_fin Tryz.f87 _ an87 rfl rfl rfl Tryz.func87 rfl (by kernel_rfl) ?_
  generalize (loc + 1) * 1000 / (1000 - dr) = q at *
  generalize (loc + 1) * 1000 % (1000 - dr) = r at *
  simp [go_sem, eConfig, wrap_id (n := loc + 1) (by omega), wrap_id (n := (loc + 1) * 1000) (by omega), wrap_id (n := 1000 - dr) (by omega), e1, e2, show ¬ 1000 - dr = 0 by omega, wrap_id (n := q) (by omega), wrap_id (n := r) (by omega)]
  have hm : (if 1 < r then (1 : Int) else r) = min r 1 := by split <;> omega
  rw [hm, wrap_id (by omega)]
theorem floor_E (a b : Int) (ha : 0 ≤ a ∧ a ≤ 1000000000000) (hb : 0 < b ∧ b ≤ 1000000) : E CX 149 [.int .i64 a, .int .i64 b] [] = some { val := .int .i64 (a / b) } := by
  have e1 : a.tdiv b = a / b := Int.tdiv_eq_ediv_of_nonneg (by omega)
  have e2 : a.tmod b = a % b := Int.tmod_eq_emod_of_nonneg (by omega)
  have q0 : 0 ≤ a / b := Int.ediv_nonneg (by omega) (by omega)
  have q1 : a / b ≤ a := Int.ediv_le_self _ (by omega)
  have r0 := Int.emod_nonneg a (show b ≠ 0 by omega)
  have r1 := Int.emod_lt_of_pos a hb.1
  refine E_fin Tryz.f149 _ an149 rfl rfl rfl Tryz.func149 rfl (by kernel_rfl) ?_
  generalize a / b = q at *
  generalize a % b = r at *
  simp [go_sem, e1, e2, show ¬ b = 0 by omega, wrap_id (n := q) (by omega), wrap_id (n := r) (by omega), show ¬ r < 0 by omega]
theorem earliest_E (c : Config) (loc : Int) (h : 0 ≤ c.drift ∧ c.drift ≤ 500) (hl : 1 ≤ loc ∧ loc ≤ 1000000) : E CX 88 [eConfig c, .int .i64 loc] [] = some { val := .int .i64 (earF c.drift loc) } := by
  obtain ⟨a, b, d, dr⟩ := c
  simp only at h
  unfold earF
  have e1 := floor_E ((loc - 1) * 1000) (1000 + dr) (by omega) (by omega)
  refine E_fin Tryz.f88 _ an88 rfl rfl rfl Tryz.func88 rfl (by kernel_rfl) ?_
  simp [go_sem, eConfig, wrap_id (n := loc - 1) (by omega), wrap_id (n := (loc - 1) * 1000) (by omega), wrap_id (n := 1000 + dr) (by omega), e1]
theorem lat_bd (drift loc : Int) (h : 0 ≤ drift ∧ drift ≤ 500) (hl : 0 ≤ loc ∧ loc ≤ 1000000) : 0 ≤ latF drift loc ∧ latF drift loc ≤ 1000002000 := by
  unfold latF
  have q0 : 0 ≤ ((loc + 1) * 1000 + 999 - drift) / (1000 - drift) := Int.ediv_nonneg (by omega) (by omega)
  have q1 : ((loc + 1) * 1000 + 999 - drift) / (1000 - drift) ≤ (loc + 1) * 1000 + 999 - drift := Int.ediv_le_self _ (by omega)
  omega
theorem configOK_E (c : Config) : E CX 35 [eConfig c] [] = some { val := .bool (cfgOK c) } := by
  have e1 := right_E c
  unfold cfgOK
  refine E_fin Tryz.f35 _ an35 rfl rfl rfl Tryz.func35 rfl (by kernel_rfl) ?_
  cases c1 : cfgB c
  · rw [c1] at e1
    simp only [eConfig] at e1
    simp [go_sem, eConfig, e1]
  rw [c1] at e1
  simp [cfgB, inn] at c1
  obtain ⟨⟨⟨f1, d1⟩, y1⟩, r1⟩ := c1
  have e2 := latest_E c c.fail r1 (by omega)
  have e3 := earliest_E c c.dead r1 (by omega)
  have hb := lat_bd c.drift c.fail r1 (by omega)
  simp only [eConfig] at e1 e2 e3
  generalize latF c.drift c.fail = x at *
  generalize earF c.drift c.dead = y at *
  simp [go_sem, eConfig, e1, e2, e3, wrap_id (n := x + c.delay) (by omega)]
end Go.Proofs.YtdcgfapededocaaGreat



namespace Go.Proofs.YtdcgfapededocaaGreat
open Go
set_option maxRecDepth 100000
set_option maxHeartbeats 2000000
set_option linter.unusedSimpArgs false
set_option linter.unusedVariables false
end Go.Proofs.YtdcgfapededocaaGreat



namespace Go.Proofs.YtdcgfapededocaaGreat
open Go
set_option maxRecDepth 100000
set_option maxHeartbeats 2000000
set_option linter.unusedSimpArgs false
set_option linter.unusedVariables false
end Go.Proofs.YtdcgfapededocaaGreat



namespace Go.Proofs.YtdcgfapededocaaGreat
open Go
set_option maxRecDepth 100000
set_option maxHeartbeats 2000000
set_option linter.unusedSimpArgs false
set_option linter.unusedVariables false
end Go.Proofs.YtdcgfapededocaaGreat



namespace Go.Proofs.YtdcgfapededocaaGreat
open Go
set_option maxRecDepth 100000
set_option maxHeartbeats 2000000
set_option linter.unusedSimpArgs false
set_option linter.unusedVariables false
/-! Configs. -/
theorem sBounds_E (c : Config) : E CX 71 [eConfig c] [] = some { val := .bool (cfgB c) } := by
  unfold cfgB
  refine E_fin Tryz.f71 _ an71 rfl rfl rfl Tryz.func71 rfl (by kernel_rfl) ?_
  cases c1 : inn c.fail 1 10000
  · simp [go_sem, eConfig, l01In_E, c1]
  cases c2 : inn c.dead 1 100000
  · simp [go_sem, eConfig, l01In_E, c1, c2]
  cases c3 : inn c.delay 0 1000
  · simp [go_sem, eConfig, l01In_E, c1, c2, c3]
  simp [go_sem, eConfig, l01In_E, c1, c2, c3]
theorem sLatest_E (dr loc : Int) (h : 0 ≤ dr ∧ dr ≤ 500) (hl : 0 ≤ loc ∧ loc ≤ 1000000) : E CX 72 [.int .i64 dr, .int .i64 loc] [] = some { val := .int .i64 (latF dr loc) } := by
  have hb := lat_bd dr loc h hl
  have e1 : ((loc + 1) * 1000 + 999 - dr).tdiv (1000 - dr) = latF dr loc := Int.tdiv_eq_ediv_of_nonneg (by omega)
  generalize latF dr loc = x at *
  refine E_fin Tryz.f72 _ an72 rfl rfl rfl Tryz.func72 rfl (by kernel_rfl) ?_
  simp [go_sem, wrap_id (n := loc + 1) (by omega), wrap_id (n := (loc + 1) * 1000) (by omega), wrap_id (n := (loc + 1) * 1000 + 999) (by omega), wrap_id (n := (loc + 1) * 1000 + 999 - dr) (by omega), wrap_id (n := 1000 - dr) (by omega), e1, show ¬ 1000 - dr = 0 by omega, wrap_id (n := x) (by omega)]
theorem sEarliest_E (dr loc : Int) (h : 0 ≤ dr ∧ dr ≤ 500) (hl : 1 ≤ loc ∧ loc ≤ 1000000) : E CX 73 [.int .i64 dr, .int .i64 loc] [] = some { val := .int .i64 (earF dr loc) } := by
  have e1 : ((loc - 1) * 1000).tdiv (1000 + dr) = earF dr loc := Int.tdiv_eq_ediv_of_nonneg (by omega)
  have q0 : 0 ≤ earF dr loc := Int.ediv_nonneg (by omega) (by omega)
  have q1 : earF dr loc ≤ (loc - 1) * 1000 := Int.ediv_le_self _ (by omega)
  generalize earF dr loc = x at *
  refine E_fin Tryz.f73 _ an73 rfl rfl rfl Tryz.func73 rfl (by kernel_rfl) ?_
  simp [go_sem, wrap_id (n := loc - 1) (by omega), wrap_id (n := (loc - 1) * 1000) (by omega), wrap_id (n := 1000 + dr) (by omega), e1, show ¬ 1000 + dr = 0 by omega, wrap_id (n := x) (by omega)]
theorem sConfigOK_E (c : Config) : E CX 26 [eConfig c] [] = some { val := .bool (cfgOK c) } := by
  have e1 := sBounds_E c
  unfold cfgOK
  refine E_fin Tryz.f26 _ an26 rfl rfl rfl Tryz.func26 rfl (by kernel_rfl) ?_
  cases c1 : cfgB c
  · rw [c1] at e1
    simp only [eConfig] at e1
    simp [go_sem, eConfig, e1]
  rw [c1] at e1
  simp [cfgB, inn] at c1
  obtain ⟨⟨⟨f1, d1⟩, y1⟩, r1⟩ := c1
  have e2 := sLatest_E c.drift c.fail r1 (by omega)
  have e3 := sEarliest_E c.drift c.dead r1 (by omega)
  have hb := lat_bd c.drift c.fail r1 (by omega)
  simp only [eConfig] at e1
  generalize latF c.drift c.fail = x at *
  generalize earF c.drift c.dead = y at *
  simp [go_sem, eConfig, e1, e2, e3, wrap_id (n := x + c.delay) (by omega)]
end Go.Proofs.YtdcgfapededocaaGreat



namespace Go.Proofs.YtdcgfapededocaaGreat
open Go
set_option maxRecDepth 100000
set_option maxHeartbeats 4000000
set_option linter.unusedSimpArgs false
set_option linter.unusedVariables false
def nwC (c : Config) (n : Int) : Int := firstP [(!cfgOK c, 1), (!inn n 0 12, 4)]
theorem newLaw_E (c : Config) (n : Int) : E CX 6 [eConfig c, .int .i64 n] [] = some { val := .bool true } := by
  have e0 := toConfig_E c
  have q1 := configOK_E c
  have q2 := sConfigOK_E c
  have q3 := isSizeU_E n
  have q4 := first_E [(!cfgOK c, 1), (!inn n 0 12, 4)] (by simp)
  simp only [anys] at q4
  have hbad : ∀ code : Int, nwC c n = code → code ≠ 0 → E CX 18 [eConfig c, .int .i64 n] [] = some { val := .tuple [.agg [.nil, .nil, .int .i64 0, .int .i64 0, .int .i64 0, .int .i64 0, .nil, .int .i64 0, .nil, .nil, .int .i64 0, .int .i64 0, .int .i64 0, .str [], .bool false], .int .i64 code] } → E CX 16 [eConfig c, .int .i64 n] [] = some { val := .tuple [.agg [.nil, .nil, .int .i64 0, .int .i64 0, .int .i64 0, .int .i64 0, .nil, .int .i64 0, .nil, .nil, .int .i64 0, .int .i64 0, .int .i64 0, .str [], .bool false], .int .i64 code] } → E CX 6 [eConfig c, .int .i64 n] [] = some { val := .bool true } := by
    intro code _ _ e1 e2
    have e3 := eqWorld_E ⟨⟨[], []⟩, ⟨0, 0, 0, 0⟩, [], 0, ⟨[], []⟩, ⟨0, 0, 0, []⟩, false⟩ ⟨by simp, by simp, by simp, ⟨by simp, by simp, by simp, by simp⟩, by simp⟩
    have e4 := markWorld_nil 0 0 0 0 0 0 0 0 [] false
    have e5 := heldWorld_none 0 0 0 0 ⟨0, 0, 0, 0⟩ 0 ⟨0, 0, 0, []⟩ false (by decide)
    simp only [eConfig] at e0 e1 e2
    simp [eWld, mtL, mkIo, mkHost, upI, szWn] at e3 e5
    refine E_fin Tryz.f6 _ an6 rfl rfl rfl Tryz.func6 rfl (by kernel_rfl) ?_
    simp [go_sem, eConfig, e0, e1, e2, e3, e4, e5]
  cases c1 : cfgOK c
  · rw [c1] at q1 q2 q4
    have hc : nwC c n = 1 := by simp [nwC, c1, firstP]
    refine hbad 1 hc (by omega) ?_ ?_
    · simp [firstP] at q4
      simp only [eConfig] at q1
      refine E_fin Tryz.f18 _ an18 rfl rfl rfl Tryz.func18 rfl (by kernel_rfl) ?_
      cases c2 : inn n 0 12 <;> rw [c2] at q3 q4 <;> simp at q4 <;> simp [go_sem, eConfig, q1, q3, q4]
    · simp only [eConfig] at q2
      refine E_fin Tryz.f16 _ an16 rfl rfl rfl Tryz.func16 rfl (by kernel_rfl) ?_
      simp [go_sem, eConfig, q2]
  cases c2 : inn n 0 12
  · rw [c1, c2] at q4
    rw [c1] at q1 q2
    rw [c2] at q3
    have hc : nwC c n = 4 := by simp [nwC, c1, c2, firstP]
    simp [firstP] at q4
    refine hbad 4 hc (by omega) ?_ ?_
    · simp only [eConfig] at q1
      refine E_fin Tryz.f18 _ an18 rfl rfl rfl Tryz.func18 rfl (by kernel_rfl) ?_
      simp [go_sem, eConfig, q1, q3, q4]
    · simp only [eConfig] at q2
      refine E_fin Tryz.f16 _ an16 rfl rfl rfl Tryz.func16 rfl (by kernel_rfl) ?_
      simp [go_sem, eConfig, q2, l01In_E, c2]
  rw [c1, c2] at q4
  rw [c1] at q1 q2
  rw [c2] at q3
  simp [firstP] at q4
  obtain ⟨k, rfl⟩ : ∃ k : Nat, n = k := ⟨n.toNat, by simp [inn] at c2; omega⟩
  have hk : k ≤ 12 := by simp [inn] at c2; omega
  clear hbad
  have e1 := newWorld_E c k hk
  have e2 := sNewWorld_E c k hk
  have B := nW_B c k hk
  have e3 := eqWorld_E (nW (fD k) c k) B
  have g := fD_good k
  have g1 := g.ss; have g2 := g.ps
  have hb : 1 + szWn (fD k).ss.length (fD k).ps.length 4 k ≤ 1099511627776 := by unfold szWn; omega
  have e4 := markWorld_none (nW (fD k) c k) rfl (fT k) (by simp only [nW, List.length_cons, List.length_nil, List.length_replicate]; exact hb)
  have e5 := heldWorld_none (fD k).ss.length (fD k).ps.length 4 k c 0 ⟨0, 0, 0, []⟩ true hb
  have hn : ¬ 1 + szWn (fD k).ss.length (fD k).ps.length 4 k < 0 := by unfold szWn; omega
  have l1 := mtL_length 1 (fD k).ss.length
  have l2 := mkIo_length (1 + (fD k).ss.length) (fD k).ps.length
  have hrep : (List.replicate k (0 : Int)).map (AV.int .i64) = List.replicate k (.int .i64 0) := List.map_replicate
  simp only [eWld, nW, rI, zrW, zHost, hrep, List.length_replicate] at e1 e2 e3 e4 e5
  simp only [eConfig] at e0 e1 e2 q1 q2
  simp at e0 e1 e2 e3 e4 e5
  have p1 : E CX 18 [eConfig c, .int .i64 k] [] = some { val := .tuple [.agg [.ref [0, 0, 0, 0] 0 (fD k).ss.length, .ref [1, 0, 0, 0] 0 (fD k).ps.length, .int .i64 c.fail, .int .i64 c.dead, .int .i64 c.delay, .int .i64 c.drift, .ref [2, 0, 0, 0] 0 4, .int .i64 0, .ref [3, 0, 0, 0] 0 k, .nil, .int .i64 0, .int .i64 0, .int .i64 0, .str [], .bool true], .int .i64 0], own := [⟨false, 9, 1, (fD k).ss.map .str, none⟩, ⟨false, 105, 3, (fD k).ps.map eIo ++ (fT k).map eIo, none⟩, zrW, ⟨false, 3, 1, List.replicate k (.int .i64 0), none⟩] } := by
    refine E_fin Tryz.f18 _ an18 rfl rfl rfl Tryz.func18 rfl (by kernel_rfl) ?_
    simp [go_sem, eConfig, q1, q3, q4, e1, zrW, zHost]
  have p2 : E CX 16 [eConfig c, .int .i64 k] [] = some { val := .tuple [eWld (nW (fD k) c k), .int .i64 0] } := by
    refine E_fin Tryz.f16 _ an16 rfl rfl rfl Tryz.func16 rfl (by kernel_rfl) ?_
    simp [go_sem, eConfig, q2, l01In_E, c2, e2, zrW, zHost, eWld, nW, hrep]
  clear e1 e2 q1 q2 q3 q4
  generalize hzz : szWn (fD k).ss.length (fD k).ps.length 4 k = z at *
  generalize fD k = r at *
  generalize fT k = tl at *
  simp only [eConfig, eWld, nW, zrW, zHost, hrep] at p1 p2
  simp at p1 p2
  have l3 := mkHost_length (1 + r.ss.length + 3 * r.ps.length) 4
  have l4 := upI_length (1 + r.ss.length + 3 * r.ps.length + 12) k
  have t1 : List.take r.ss.length ((mtL 1 r.ss.length).map AV.str) = (mtL 1 r.ss.length).map AV.str := List.take_of_length_le (by simp [l1])
  have t2 : List.take r.ps.length ((mkIo (1 + r.ss.length) r.ps.length).map eIo ++ tl.map eIo) = (mkIo (1 + r.ss.length) r.ps.length).map eIo := by
    rw [List.take_append_of_le_length (by simp [l2])]; exact List.take_of_length_le (by simp [l2])
  have t3 : List.take 4 ((mkHost (1 + r.ss.length + 3 * r.ps.length) 4).map eHost) = (mkHost (1 + r.ss.length + 3 * r.ps.length) 4).map eHost := List.take_of_length_le (by simp [l3])
  have t4 : List.take k ((upI (1 + r.ss.length + 3 * r.ps.length + 12) k).map (AV.int .i64)) = (upI (1 + r.ss.length + 3 * r.ps.length + 12) k).map (AV.int .i64) := List.take_of_length_le (by simp [l4])
  refine E_fin Tryz.f6 _ an6 rfl rfl rfl Tryz.func6 rfl (by kernel_rfl) ?_
  simp [go_sem, eConfig, e0, p1, p2, e3, e4, e5, l1, l2, l3, l4, t1, t2, t3, t4, hn, hzz]
end Go.Proofs.YtdcgfapededocaaGreat



namespace Go.Proofs.YtdcgfapededocaaGreat
open Go
set_option maxRecDepth 100000
end Go.Proofs.YtdcgfapededocaaGreat



namespace Go.Proofs.YtdcgfapededocaaGreat
open Go
set_option maxRecDepth 100000
theorem told_ConfigC : ∀ bs, Typed Tryz.prog 27 bs → ∃ x : Config, bs = [.int .i64 x.fail, .int .i64 x.dead, .int .i64 x.delay, .int .i64 x.drift] ∧ In64 x.fail ∧ In64 x.dead ∧ In64 x.delay ∧ In64 x.drift := by
  intro bs h
  obtain ⟨hl, hf⟩ := typed_strct Tryz.underlying27 h
  rw [show Tryz.prog.cellsOf 27 = 4 by kernel_rfl] at hl
  obtain ⟨a, b, c, d, rfl⟩ := len4 hl
  simp [cells_int] at hf
  obtain ⟨h0, h1, h2, h3⟩ := hf
  obtain ⟨x0, e0, w0⟩ := typed_int Tryz.underlying3 h0
  obtain ⟨x1, e1, w1⟩ := typed_int Tryz.underlying3 h1
  obtain ⟨x2, e2, w2⟩ := typed_int Tryz.underlying3 h2
  obtain ⟨x3, e3, w3⟩ := typed_int Tryz.underlying3 h3
  cases e0; cases e1; cases e2; cases e3
  exact ⟨⟨x0, x1, x2, x3⟩, rfl, in64_of w0, in64_of w1, in64_of w2, in64_of w3⟩
theorem told_Config : ∀ bs, Typed Tryz.prog 27 bs → ∃ x : Config, mkVal (tagg Tryz.prog 27) bs = eConfig x ∧ In64 x.fail ∧ In64 x.dead ∧ In64 x.delay ∧ In64 x.drift := by
  intro bs h
  obtain ⟨x, rfl, F⟩ := told_ConfigC bs h
  exact ⟨x, by rw [show tagg Tryz.prog 27 = true by kernel_rfl]; rfl, F⟩
end Go.Proofs.YtdcgfapededocaaGreat


