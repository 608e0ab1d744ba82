/- A reading of the loaded code over plain data, its soundness, and what functions answer by it (part 1; joined by program). No condition. -/
import Derived.Calls
import Derived.Below
import Derived.KernelRfl
import Derived.Laws.CopyRow
import Derived.Test.YtndgpinhbffleaaGreatProg
set_option linter.all false
namespace Go.Proofs.YtndgpinhbffleaaGreat
open Go

/-- Names of the blocks that a call owns. -/
abbrev Id := List Nat
/-- Names that stand for blocks of callers. -/
def ph (id : Id) : Bool := decide (3 < id.length)

/-- The names of what is new in an answer. -/
def ownIx : Id → Option Nat
  | [k, 0, 0, 0] => some k
  | _ => none

/-- A value, told as data. 'dead': nothing is known of it. 'sl': a slice that is only read (cells an element, elements). 'nil': of no length and no capacity. 'ref': a slice of an own block. 'ptr': into an own block. 'rptr': to cells that are only read. -/
inductive AV where
  | dead
  | int (k : IntKind) (n : Int)
  | bool (b : Bool)
  | str (s : List UInt8)
  | agg (cs : List AV)
  | sl (sz : Nat) (es : List AV)
  | nil
  | ref (id : Id) (off len : Nat)
  | ptr (id : Id) (idx off : Nat)
  | rptr (cs : List AV)
  | fn (f : FuncId) (caps : List AV)
  | nilfn
  | iface (t : TypeId) (v : AV)
  | niliface
  | tuple (vs : List AV)
  | nilptr
  deriving Inhabited

/-- An own block: elements of a type; a variable's block may hold names in its one element, a row holds none. 'sub': the rows that a row's elements show are its own too, of elements of that type. -/
structure Blk where
  isVar : Bool
  ty : TypeId
  sz : Nat
  els : List AV
  sub : Option TypeId := none
  deriving Inhabited

def cellsOf : AV → List AV
  | .agg cs => cs
  | v => [v]
/-- What holds no other memory. -/
def plainC : AV → Bool
  | .int _ _ => true
  | .bool _ => true
  | .str _ => true
  | .nil => true
  | .sl _ [] => true
  | .nilfn => true
  | .niliface => true
  | .nilptr => true
  | _ => false
def plainE (e : AV) : Bool := (cellsOf e).all plainC
/-- What may be read off a row that has rows of its own. -/
def veilC (c : AV) : AV := if plainC c then c else .dead
def veilE : AV → AV
  | .agg cs => .agg (cs.map veilC)
  | c => veilC c
def veilL (b : Blk) (cs : List AV) : List AV := match b.sub with
  | none => cs
  | some _ => cs.map veilC
def veil (b : Blk) (es : List AV) : List AV := match b.sub with
  | none => es
  | some _ => es.map veilE
def mkVal (ag : Bool) (cs : List AV) : AV := if ag then .agg cs else cs.headD .dead

mutual
/-- What names something that 'K' gives up is known no more. -/
def AV.kill (K : Id → Bool) : AV → AV
  | .agg cs => .agg (AV.killL K cs)
  | .ref id off len => match K id with
    | true => .dead
    | false => .ref id off len
  | .ptr id idx off => match K id with
    | true => .dead
    | false => .ptr id idx off
  | .fn f cs => .fn f (AV.killL K cs)
  | .iface t v => .iface t (AV.kill K v)
  | .tuple vs => .tuple (AV.killL K vs)
  | v => v
def AV.killL (K : Id → Bool) : List AV → List AV
  | [] => []
  | c :: cs => AV.kill K c :: AV.killL K cs
end
def Blk.kill (K : Id → Bool) (b : Blk) : Blk := { b with els := match b.isVar with
  | true => AV.killL K b.els
  | false => b.els }

/-- A value of one cell. -/
def leaf : AV → Bool
  | .agg _ => false
  | .tuple _ => false
  | .dead => false
  | _ => true

mutual
/-- The names in a value. -/
def AV.ids : AV → List Id
  | .agg cs => AV.idsL cs
  | .ref id _ _ => [id]
  | .ptr id _ _ => [id]
  | .fn _ cs => AV.idsL cs
  | .iface _ v => AV.ids v
  | .tuple vs => AV.idsL vs
  | _ => []
def AV.idsL : List AV → List Id
  | [] => []
  | c :: cs => AV.ids c ++ AV.idsL cs
end

mutual
/-- Does a value hold something that is only read (and may lie in memory of whoever called)? -/
def AV.shares : AV → Bool
  | .agg cs => AV.sharesL cs
  | .sl _ _ => true
  | .rptr _ => true
  | .fn _ cs => AV.sharesL cs
  | .iface _ v => AV.shares v
  | .tuple vs => AV.sharesL vs
  | _ => false
def AV.sharesL : List AV → Bool
  | [] => false
  | c :: cs => AV.shares c || AV.sharesL cs
end

abbrev Heap := Id → Option Blk

mutual
/-- A value with what it names read out: by value. -/
def AV.pack (h : Heap) : Nat → AV → Option AV
  | n, .agg cs => (AV.packL h n cs).map .agg
  | _, .ref id off len =>
    match h id with
    | some b => if b.isVar = false ∧ off + len ≤ b.els.length then some (.sl b.sz ((b.els.drop off).take len)) else none
    | none => none
  | n, .ptr id idx off =>
    match n with
    | 0 => none
    | n + 1 =>
      match h id with
      | some b => if idx < b.els.length then (AV.packL h n ((cellsOf (b.els.getD idx .dead)).drop off)).map .rptr else none
      | none => none
  | n, .fn f cs => (AV.packL h n cs).map (.fn f)
  | n, .iface t v => (AV.pack h n v).map (.iface t)
  | n, .tuple vs => (AV.packL h n vs).map .tuple
  | _, v => some v
  termination_by n v => (n, SizeOf.sizeOf v)
def AV.packL (h : Heap) : Nat → List AV → Option (List AV)
  | _, [] => some []
  | n, c :: cs =>
    match AV.pack h n c with
    | some c' => (AV.packL h n cs).map (c' :: ·)
    | none => none
  termination_by n cs => (n, SizeOf.sizeOf cs)
end

def restrH (is : List Id) (h : Heap) : Heap := fun x => if x ∈ is then h x else none
/-- By value, and the names that are given up for it. -/
def AV.frz (h : Heap) (v : AV) : Option (AV × List Id) :=
  match v.ids with
  | [] => some (v, [])
  | i :: ids => (AV.pack (restrH (i :: ids) h) 0 v).map (·, i :: ids)

/-- A constant as data. -/
def AV.ofCell : Value → AV
  | .bool b => .bool b
  | .int k n => .int k n
  | .string s => .str s.data.toList
  | .slice none 0 0 => .nil
  | .pointer none => .nilptr
  | .nilFunc => .nilfn
  | .nilIface => .niliface
  | _ => .dead
def AV.ofValue : Value → AV
  | .agg cs => .agg (cs.toList.map AV.ofCell)
  | v => AV.ofCell v

/-! Types -/
inductive TK where
  | int (k : IntKind) | bool | str | slice (e : TypeId) | strct (fs : List (Nat × Nat × Bool)) | func | iface (empty : Bool) | other
structure TyI where
  size : Nat
  bytes : Nat
  ag : Bool
  zero : List AV
  kind : TK
def tsize (P : Program) (t : TypeId) : Nat := match P.info? t, P.underlying t with
  | some i, some _ => i.size
  | _, _ => 0
def tagg (P : Program) (t : TypeId) : Bool := match P.underlying t with
  | some (.struct _) => true
  | some (.array _ _) => true
  | _ => false
def tkind (P : Program) (t : TypeId) : TK := match P.underlying t with
  | some (.int k) => .int k
  | some .bool => .bool
  | some .string => .str
  | some (.slice e) => .slice e
  | some (.struct fs) => .strct (fs.toList.map fun f => (f.offset, tsize P f.type, tagg P f.type))
  | some (.func _ _ _) => .func
  | some (.interface ms) => .iface ms.isEmpty
  | _ => .other
def zform (ag : Bool) : Value → Bool
  | .agg _ => ag
  | _ => !ag
def tyi (P : Program) (t : TypeId) : Option TyI :=
  match P.info? t, P.underlying t with
  | some i, some _ =>
    match i.zero with
    | some z => if zform (tagg P t) z then some { size := i.size, bytes := i.bytes, ag := tagg P t, zero := z.cells.toList.map AV.ofCell, kind := tkind P t } else none
    | none => none
  | _, _ => none

/-! Functions and their answers -/
/-- What a call answers: the value, what the blocks that it was lent hold behind it, the blocks that are new ('ref [k] ..' in the value is the k-th of them). -/
structure Res where
  val : AV
  io : List Blk := []
  own : List Blk := []
abbrev Oracle := FuncId → List AV → List (Id × Blk) → Option Res

/-- Remarks on a function, that guide the reading and cannot make it unsound. -/
structure Ann where
  vars : List Nat := []
  keep : List (Nat × List Nat × List Id) := []
  outs : List (Nat × List Nat × List Id) := []
  io : List Bool := []
  own : List (Nat × List Id) := []
  hw : List ((Nat × Nat) × List Id × List Id) := []
  vk : List ((Nat × Nat) × List Id × List Id) := []
  ext : Bool := false
  dp : Bool := false
  fl : List Nat := []
  np : Nat := 0

/-- What an operation does: its value, the blocks that are new or changed, the names that hold no more. -/
structure Eff where
  val : AV
  ups : List (Id × Blk) := []
  kills : List Id := []

def lookupD {α β : Type} [DecidableEq α] (l : List (α × β)) (k : α) (d : β) : β :=
  match l with
  | [] => d
  | (x, y) :: l => if k = x then y else lookupD l k d

def newAt (h : Heap) (id : Id) (b : Blk) (v : AV) : Eff := match h id with
  | some _ => { val := v, ups := [(id, b.kill fun i => decide (i = id))], kills := [id] }
  | none => { val := v, ups := [(id, b)] }
end Go.Proofs.YtndgpinhbffleaaGreat


namespace Go.Proofs.YtndgpinhbffleaaGreat
open Go

/-! Slots and heaps -/
abbrev Slots := Nat → AV
def D0 : Slots := fun _ => .dead
def U (f : Slots) (k : Nat) (v : AV) : Slots := fun x => if x = k then v else f x
def HE : Heap := fun _ => none
def HU (h : Heap) (k : Id) (b : Blk) : Heap := fun x => if x = k then some b else h x
def killS (K : Id → Bool) (f : Slots) : Slots := fun x => (f x).kill K
def killH (K : Id → Bool) (h : Heap) : Heap := fun x => match K x with
  | true => none
  | false => (h x).map (Blk.kill K)
def restr (vs : List Nat) (f : Slots) : Slots := fun x => if x ∈ vs then f x else .dead
def inL (l : List Id) : Id → Bool := fun x => decide (x ∈ l)
def outL (l : List Id) : Id → Bool := fun x => !decide (x ∈ l)

/-- What the names of 'H' hold is hidden, and the names of 'V' wherever they stand. -/
def maskH (H V : List Id) (h : Heap) : Heap := fun x => match inL H x with
  | true => none
  | false => (h x).map (Blk.kill (inL V))
def HO (h : Heap) (k : Id) : Heap := fun x => if x = k then none else h x
def hideH : List Id → Heap → Heap
  | [], h => h
  | i :: l, h => HO (hideH l h) i

structure St where
  slot : Slots
  heap : Heap

def upds (h : Heap) : List (Id × Blk) → Heap
  | [] => h
  | (id, b) :: l => upds (HU h id b) l
def putS (f : Slots) (d : Option Nat) (v : AV) : Slots := match d with
  | some d => U f d v
  | none => f
def St.app (σ : St) (e : Eff) (d : Option Nat) : St := match e.kills with
  | [] => ⟨putS σ.slot d e.val, upds σ.heap e.ups⟩
  | K => ⟨putS (killS (inL K) σ.slot) d e.val, upds (killH (inL K) σ.heap) e.ups⟩
def St.ev (σ : St) : Operand → AV
  | .tmp t => σ.slot t
  | .const v => AV.ofValue v
  | .global _ => .dead
  | .func f => .fn f []

/-! Operations -/
section
variable (P : Program)
/-- Are two values equal? As the model asks it, by their type. -/
def aeq : Nat → TypeId → AV → AV → Option Bool
  | 0, _, _, _ => none
  | d + 1, t, x, y =>
    match P.underlying t, x, y with
    | some .bool, .bool a, .bool b => some (a == b)
    | some (.int _), .int k a, .int k' b => if k = k' then some (a == b) else none
    | some .string, .str a, .str b => some (a == b)
    | some (.struct fs), .agg xs, .agg ys => if P.stoodInHeld t then none else go d fs.toList xs ys
    | _, _, _ => none
where go (d : Nat) : List Field → List AV → List AV → Option Bool
  | [], _, _ => some true
  | f :: fs, xs, ys =>
    if f.name = "_" then none else
    if tsize P f.type = 0 ∨ xs.length < f.offset + tsize P f.type ∨ ys.length < f.offset + tsize P f.type then none else
    match aeq d f.type (mkVal (tagg P f.type) ((xs.drop f.offset).take (tsize P f.type))) (mkVal (tagg P f.type) ((ys.drop f.offset).take (tsize P f.type))) with
    | some a => (go d fs xs ys).map (a && ·)
    | none => none

def aint (op : BinOp) (k : IntKind) (a b : Int) : Option AV :=
  match op with
  | .add => some (.int k (k.wrap (a + b)))
  | .sub => some (.int k (k.wrap (a - b)))
  | .mul => some (.int k (k.wrap (a * b)))
  | .quo => if b = 0 then none else some (.int k (k.wrap (a.tdiv b)))
  | .rem => if b = 0 then none else some (.int k (a.tmod b))
  | .or => some (.int k (k.wrap (BitVec.ofInt k.bits a ||| BitVec.ofInt k.bits b).toNat))
  | .eql => some (.bool (a == b))
  | .neq => some (.bool (a != b))
  | .lss => some (.bool (decide (a < b)))
  | .leq => some (.bool (decide (a ≤ b)))
  | .gtr => some (.bool (decide (b < a)))
  | .geq => some (.bool (decide (b ≤ a)))
  | _ => none
def abin (op : BinOp) (t : TypeId) (x y : AV) : Option AV :=
  match x, y with
  | .int k a, .int k' b =>
    match op with
    | .shl => if 0 ≤ b ∧ b.toNat ≤ k.bits then some (.int k (k.wrap (a * 2 ^ b.toNat))) else none
    | .shr => if 0 ≤ b ∧ b.toNat ≤ k.bits then some (.int k (a.fdiv (2 ^ b.toNat))) else none
    | _ => if k = k' then aint op k a b else none
  | .str a, .str b =>
    match op with
    | .add => if a.length + b.length ≤ 4611686018427387904 then some (.str (a ++ b)) else none
    | .eql => some (.bool (a == b))
    | .neq => some (.bool (!(a == b)))
    | .lss => some (.bool (Op.bytesLess a b))
    | _ => none
  | .bool a, .bool b =>
    match op, P.underlying t with
    | .eql, some .bool => some (.bool (a == b))
    | .neq, some .bool => some (.bool (!(a == b)))
    | _, _ => none
  | .agg xs, .agg ys =>
    if P.eqGuardType P.depth t then none else
    match op, aeq P 5 t (.agg xs) (.agg ys) with
    | .eql, some b => some (.bool b)
    | .neq, some b => some (.bool (!b))
    | _, _ => none
  | _, _ => none
def isNilC : Operand → Bool
  | .const (.slice none _ _) => true
  | _ => false
/-- A slice beside nil. -/
def anil (op : BinOp) (t : TypeId) (x : AV) : Option AV :=
  match tkind P t, op, x with
  | .slice _, .eql, .sl _ (_ :: _) => some (.bool false)
  | .slice _, .neq, .sl _ (_ :: _) => some (.bool true)
  | _, _, _ => none
def aun (op : UnOp) (x : AV) : Option AV :=
  match op, x with
  | .not, .bool b => some (.bool (!b))
  | .neg, .int k n => some (.int k (k.wrap (0 - n)))
  | _, _ => none
def apick (c a b : AV) : Option AV :=
  match c, a, b with
  | .bool c, .bool x, .bool y => some (.bool (if c then x else y))
  | .bool c, a, b => some (if c then a else b)
  | _, _, _ => none
def bytesOf : List AV → Option (List UInt8)
  | [] => some []
  | .int .u8 n :: l => if 0 ≤ n ∧ n < 256 then (bytesOf l).map (UInt8.ofNat n.toNat :: ·) else none
  | _ => none
/-- The elements that a slice value shows. -/
def elsOf (h : Heap) (n : Nat) : AV → Option (List AV)
  | .sl m es => if m = n then some es else none
  | .nil => some []
  | .ref id off len => match h id with
    | some b => if b.isVar = false ∧ b.sz = n ∧ off + len ≤ b.els.length then some (veil b ((b.els.drop off).take len)) else none
    | none => none
  | _ => none
def aconv (h : Heap) (s d : TypeId) (x : AV) : Option AV :=
  match tkind P s, tkind P d, x with
  | .int _, .int k, .int _ n => some (.int k (k.wrap n))
  | .str, .str, .str a => some (.str a)
  | .slice e, .str, x => match tkind P e, elsOf h 1 x with
    | .int .u8, some es => if es.length ≤ 1099511627776 then (bytesOf es).map .str else none
    | _, _ => none
  | _, _, _ => none
/-- Cells at an address. -/
def cellsAt (h : Heap) : AV → Option (List AV)
  | .ptr id idx off => match h id with
    | some b => if idx < b.els.length then some ((veilL b (cellsOf (b.els.getD idx .dead))).drop off) else none
    | none => none
  | .rptr cs => some cs
  | _ => none
def aload (h : Heap) (t : TypeId) (a : AV) : Option AV :=
  match tyi P t, cellsAt h a with
  | some i, some cs => if 0 < i.size ∧ i.size ≤ cs.length then some (mkVal i.ag (cs.take i.size)) else none
  | _, _ => none
/-- A load that gives up what a row owns of the rows that it shows. -/
def aloadF (np : Nat) (h : Heap) (t : TypeId) (a : AV) : Option Eff :=
  match a with
  | .ptr id _ _ => match h id with
    | some b => if np ≤ id.headD 0 then (match aload P (HU h id { b with sub := none }) t a with
      | some v => some { val := v, ups := [(id, { b with sub := none })] }
      | none => none) else none
    | none => none
  | _ => none
/-- An element with cells written over. -/
def splice (e : AV) (off : Nat) (cs : List AV) : AV :=
  match e with
  | .agg ds => .agg (ds.take off ++ cs ++ ds.drop (off + cs.length))
  | _ => cs.headD .dead
/-- Are all that cells show rows of the caller's own, each once, of elements of one type? -/
def adoptT (h : Heap) (np : Nat) (t : TypeId) : List AV → Bool
  | [] => true
  | c :: cs => (plainC c || match c with
    | .ref id 0 _ => (match h id with
      | some b => !b.isVar && decide (b.ty = t)
      | none => false) && decide (np ≤ id.headD 0) && !decide (id ∈ AV.idsL cs)
    | _ => false) && adoptT h np t cs
def firstT (h : Heap) : List AV → Option TypeId
  | [] => none
  | .ref id _ _ :: _ => match h id with
    | some b => some b.ty
    | none => none
  | _ :: cs => firstT h cs
def adopt (h : Heap) (np : Nat) (cs : List AV) : Option TypeId := match firstT h cs with
  | some t => if adoptT h np t cs then some t else none
  | none => none
/-- Whose are the rows that a row shows, when a value is put into it? -/
def joinSub (dp : Option Nat) (h : Heap) (id : Id) (b : Blk) (v : AV) : Option (Option TypeId) := match dp with
  | none => match b.sub with
    | none => some none
    | some t => if plainE v then some (some t) else none
  | some np => if plainE v then some b.sub else match (if np ≤ id.headD 0 then adopt h np (cellsOf v) else none) with
    | some t => if b.sub = some t ∨ (b.sub = none ∧ b.els.all plainE = true) then some (some t) else if b.sub = none then some none else none
    | none => if b.sub = none then some none else none
def astore (dp : Option Nat) (h : Heap) (t : TypeId) (a v : AV) : Option Eff :=
  match a, tyi P t with
  | .ptr id idx off, some i =>
    match h id with
    | some b =>
      let cs := cellsOf v
      let e := b.els.getD idx .dead
      if cs.length = i.size ∧ cs.all leaf = true ∧ 0 < i.size ∧ idx < b.els.length ∧ off + i.size ≤ (cellsOf e).length then
        if b.isVar then some { val := .dead, ups := [(id, { b with els := b.els.set idx (splice e off cs) })] }
        else match AV.frz h v, joinSub dp h id b v with
          | some (v', K), some s => if id ∈ K ∨ (cellsOf v').length ≠ i.size ∨ (cellsOf v').all leaf = false then none else some { val := .dead, ups := [(id, { b with els := b.els.set idx (splice e off (cellsOf v')), sub := s })], kills := K }
          | _, _ => none
      else none
    | none => none
  | _, _ => none
/-- Is a value's number of cells known? -/
def whole : AV → Bool
  | .agg _ => true
  | v => leaf v
def setParts : List AV → List (Nat × AV) → (Nat → Option (Nat × Nat)) → Option (List AV)
  | cs, [], _ => some cs
  | cs, (i, v) :: ps, place =>
    match place i with
    | some (off, n) =>
      let vs := cellsOf v
      if vs.length = n ∧ off + n ≤ cs.length ∧ whole v = true then setParts (cs.take off ++ vs ++ cs.drop (off + n)) ps place else none
    | none => none
def abuild (t : TypeId) (parts : List (Nat × AV)) : Option AV :=
  match tyi P t with
  | some { kind := .strct fs, zero, .. } => if fs.all fun f => decide (0 < f.2.1) then (setParts zero parts fun i => (fs[i]?).map fun f => (f.1, f.2.1)).map .agg else none
  | _ => none
/-- Parts of a row that are given up to it. -/
def frzParts (h : Heap) : List (Nat × AV) → Option (List (Nat × AV) × List Id)
  | [] => some ([], [])
  | (i, v) :: ps =>
    match AV.frz h v, frzParts h ps with
    | some (v', K), some (ps', K') => some ((i, v') :: ps', K ++ K')
    | _, _ => none
def setEls (n : Nat) : List AV → List (Nat × AV) → Option (List AV)
  | es, [] => some es
  | es, (i, v) :: ps => if (cellsOf v).length = n ∧ (cellsOf v).all leaf = true ∧ i < es.length then setEls n (es.set i v) ps else none
def builtSub (dp : Option Nat) (h : Heap) (zero : List AV) (parts : List (Nat × AV)) : Option TypeId := match dp, parts with
  | some np, [(_, v)] => if zero.all plainC then adopt h np (cellsOf v) else none
  | _, _ => none
def abuildSlice (dp : Option Nat) (h : Heap) (d : Id) (t : TypeId) (len : Nat) (parts : List (Nat × AV)) : Option Eff :=
  match tkind P t with
  | .slice e => match tyi P e, frzParts h parts with
    | some i, some (ps, K) =>
      if 0 < i.size ∧ i.zero.length = i.size ∧ i.zero.all leaf = true ∧ len * i.size ≤ 16777216 ∧ ¬ d ∈ K then
        match setEls i.size (List.replicate len (mkVal i.ag i.zero)) ps with
        | some es => let n := newAt h d { isVar := false, ty := e, sz := i.size, els := es, sub := builtSub dp h i.zero parts } (.ref d 0 len); some { n with kills := n.kills ++ K }
        | none => none
      else none
    | _, _ => none
  | _ => none
def amake (h : Heap) (d : Id) (t : TypeId) (len cap : AV) : Option Eff :=
  match tkind P t, len, cap with
  | .slice e, .int .i64 n, .int .i64 m => match tyi P e with
    | some i => if 0 < i.size ∧ i.zero.length = i.size ∧ i.zero.all leaf = true ∧ 0 ≤ n ∧ n = m ∧ i.bytes * n ≤ 140737488355328 ∧ n < 9223372036854775808 then some (newAt h d { isVar := false, ty := e, sz := i.size, els := List.replicate n.toNat (mkVal i.ag i.zero) } (.ref d 0 n.toNat)) else none
    | none => none
  | _, _, _ => none
def abound (x : Option AV) (d : Nat) : Option Nat :=
  match x with
  | none => some d
  | some (.int _ n) => if 0 ≤ n then some n.toNat else none
  | _ => none
def asliceS (h : Heap) (m : Nat) (x : AV) (lo hi mx : Option AV) : Option AV :=
  match x with
  | .sl n es => match abound lo 0, abound hi es.length, mx with
    | some l, some r, none => if l ≤ r ∧ r ≤ es.length ∧ n = m then some (.sl n ((es.take r).drop l)) else none
    | some 0, some 0, some (.int _ 0) => if hi.isSome then some .nil else none
    | _, _, _ => none
  | .nil => match abound lo 0, abound hi 0, mx with
    | some 0, some 0, none => some .nil
    | some 0, some 0, some (.int _ 0) => if hi.isSome then some .nil else none
    | _, _, _ => none
  | .ref id off len => match abound lo 0, abound hi len, mx with
    | some l, some r, none => match h id with
      | some b => if l ≤ r ∧ r ≤ len ∧ b.sz = m then some (.ref id (off + l) (r - l)) else none
      | none => none
    | some 0, some 0, some (.int _ 0) => if hi.isSome then some .nil else none
    | _, _, _ => none
  | _ => none
def aslice (h : Heap) (t : TypeId) (x : AV) (lo hi mx : Option AV) : Option AV :=
  match tkind P t, x with
  | .str, .str s => match abound lo 0, abound hi s.length, mx with
    | some l, some r, none => if l ≤ r ∧ r ≤ s.length then some (.str ((s.take r).drop l)) else none
    | _, _, _ => none
  | .slice e, x => if tsize P e = 0 then none else asliceS h (tsize P e) x lo hi mx
  | _, _ => none
def afieldAddr (t : TypeId) (x : AV) (f : Nat) : Option AV :=
  match tkind P t with
  | .strct fs => match fs[f]?, x with
    | some (off, n, _), .ptr id idx o => if 0 < n then some (.ptr id idx (o + off)) else none
    | some (off, n, _), .rptr cs => if 0 < n then some (.rptr (cs.drop off)) else none
    | _, _ => none
  | _ => none
def afield (t : TypeId) (x : AV) (f : Nat) : Option AV :=
  match tkind P t, x with
  | .strct fs, .agg cs => match fs[f]? with
    | some (off, n, g) => if 0 < n ∧ off + n ≤ cs.length then some (mkVal g ((cs.drop off).take n)) else none
    | _ => none
  | _, _ => none
def aindexAddr (h : Heap) (t : TypeId) (x i : AV) : Option AV :=
  match tkind P t, x, i with
  | .slice e, .sl m es, .int _ n => if m = tsize P e ∧ 0 ≤ n ∧ n.toNat < es.length then some (.rptr (cellsOf (es.getD n.toNat .dead))) else none
  | .slice e, .ref id off len, .int _ n => match h id with
    | some b => if b.sz = tsize P e ∧ 0 ≤ n ∧ n.toNat < len then some (.ptr id (off + n.toNat) 0) else none
    | none => none
  | _, _, _ => none
def aindex (t : TypeId) (x i : AV) : Option AV :=
  match tkind P t, x, i with
  | .str, .str s, .int _ n => if 0 ≤ n ∧ n.toNat < s.length then some (.int .u8 (s.getD n.toNat 0).toNat) else none
  | _, _, _ => none
def alen (k : TK) (x : AV) : Option AV :=
  match k, x with
  | .str, .str s => some (.int .i64 s.length)
  | .slice _, .sl _ es => some (.int .i64 es.length)
  | .slice _, .nil => some (.int .i64 0)
  | .slice _, .ref _ _ len => some (.int .i64 len)
  | _, _ => none
/-- A row whose own rows go over to another one. -/
def moved (dp : Option Nat) (h : Heap) (n : Nat) : AV → Option (Id × TypeId × List AV)
  | .ref id 0 len => match dp, h id with
    | some np, some b => match b.sub with
      | some t => if b.isVar = false ∧ b.sz = n ∧ len ≤ b.els.length ∧ np ≤ id.headD 0 then some (id, t, b.els.take len) else none
      | none => none
    | _, _ => none
  | _ => none
/-- 'append(s, x...)': onto an own row that begins at its head, or onto nothing. 'np': names that begin below it are lent. -/
def aappend (dp : Option Nat) (np : Nat) (h : Heap) (d : Id) (st xt : TypeId) (s x : AV) : Option Eff :=
  match tkind P st, tkind P xt with
  | .slice e, .slice _ => match tyi P e with
    | some i => match moved dp h i.size x with
      | some (xid, xt, news) =>
        if 0 < i.size ∧ i.bytes ≤ 1024 ∧ i.zero.length = i.size then
          match s with
          | .ref id 0 len => match h id with
            | some b => if id ≠ xid ∧ b.isVar = false ∧ np ≤ id.headD 0 ∧ len ≤ b.els.length ∧ len + news.length ≤ 1073741824 ∧ b.ty = e ∧ b.sz = i.size ∧ (b.sub = some xt ∨ (b.sub = none ∧ (b.els.take len).all plainE = true)) then some { val := .ref id 0 (len + news.length), ups := [(id, { b with els := b.els.take len ++ news, sub := some xt })], kills := [id, xid] } else none
            | none => none
          | .nil => if news.length ≤ 1073741824 ∧ d ≠ xid then let n := newAt h d { isVar := false, ty := e, sz := i.size, els := news, sub := some xt } (.ref d 0 news.length); some { n with kills := n.kills ++ [xid] } else none
          | _ => none
        else none
      | none => match elsOf h i.size x with
       | some news =>
        if 0 < i.size ∧ i.bytes ≤ 1024 ∧ i.zero.length = i.size then
          match s with
          | .ref id 0 len => match h id with
            | some b => if b.isVar = false ∧ np ≤ id.headD 0 ∧ len ≤ b.els.length ∧ len + news.length ≤ 1073741824 ∧ b.ty = e ∧ b.sz = i.size ∧ (b.sub = none ∨ news.all plainE = true) then some { val := .ref id 0 (len + news.length), ups := [(id, { b with els := b.els.take len ++ news })], kills := [id] } else none
            | none => none
          | .nil => if news.length ≤ 1073741824 then some (newAt h d { isVar := false, ty := e, sz := i.size, els := news } (.ref d 0 news.length)) else none
          | _ => none
        else none
       | none => none
    | none => none
  | _, _ => none
def aclear (h : Heap) (t : TypeId) (s : AV) : Option Eff :=
  match tkind P t, s with
  | .slice e, .ref id off len => match tyi P e, h id with
    | some i, some b => if 0 < i.size ∧ i.zero.length = i.size ∧ i.zero.all leaf = true ∧ b.sz = i.size ∧ b.isVar = false ∧ b.sub = none ∧ off + len ≤ b.els.length then some { val := .dead, ups := [(id, { b with els := b.els.take off ++ List.replicate len (mkVal i.ag i.zero) ++ b.els.drop (off + len) })] } else none
    | _, _ => none
  | _, _ => none
/-- The first elements that a slice value shows. -/
def preAV (n : Nat) : AV → AV
  | .sl m es => .sl m (es.take n)
  | .ref id off len => .ref id off (min len n)
  | v => v
def acopy (h : Heap) (t : TypeId) (s x : AV) : Option Eff :=
  match tkind P t, s with
  | .slice e, .ref id off len => match tyi P e, h id with
    | some i, some b => match elsOf h i.size (preAV len x) with
      | some news => if 0 < i.size ∧ b.sz = i.size ∧ b.isVar = false ∧ b.sub = none ∧ off + len ≤ b.els.length ∧ news.length ≤ len then some { val := .int .i64 news.length, ups := [(id, { b with els := b.els.take off ++ news ++ b.els.drop (off + news.length) })] } else none
      | none => none
    | _, _ => none
  | _, _ => none
def atype (x : AV) (t : TypeId) : Option AV :=
  match x, tyi P t with
  | .iface u v, some i => match i.kind with
    | .iface _ => none
    | _ => if u = t then some (.tuple [v, .bool true]) else some (.tuple [mkVal i.ag i.zero, .bool false])
  | _, _ => none
end
end Go.Proofs.YtndgpinhbffleaaGreat


namespace Go.Proofs.YtndgpinhbffleaaGreat
open Go

structure Ctx where
  P : Program
  A : FuncId → Ann
  X : FuncId → List AV → List (Id × Blk) → Option Res

/-! Calls -/
/-- A name for what is lent, if it has none. -/
def addN (ρ : List (Id × Id)) (i j : Id) : List (Id × Id) := match decide (i ∈ ρ.map (·.1)) with
  | true => ρ
  | false => ρ ++ [(i, j)]
def nmsL (f : Id → List (Id × Id) → AV → List (Id × Id)) (p : Id) : Nat → List (Id × Id) → List AV → List (Id × Id)
  | _, ρ, [] => ρ
  | k, ρ, c :: cs => nmsL f p (k + 1) (f (p ++ [k]) ρ c) cs
/-- Names for all that a value leads to, told by the way to it. -/
def nms (h : Heap) : Nat → Id → List (Id × Id) → AV → List (Id × Id)
  | 0, _, ρ, _ => ρ
  | n + 1, p, ρ, v => match v with
    | .ref id _ _ => addN ρ id p
    | .ptr id _ _ => match decide (id ∈ ρ.map (·.1)), h id with
      | false, some b => match b.isVar with
        | true => nmsL (nms h n) p 0 (ρ ++ [(id, p)]) (cellsOf (b.els.headD .dead))
        | false => ρ ++ [(id, p)]
      | _, _ => ρ
    | .agg cs => nmsL (nms h n) p 0 ρ cs
    | .fn _ cs => nmsL (nms h n) p 0 ρ cs
    | _ => ρ
def lendNms (h : Heap) : Nat → List (Id × Id) → List Bool → List AV → List (Id × Id)
  | _, ρ, _, [] => ρ
  | p, ρ, io, v :: vs => lendNms h (p + 1) (match io.headD false with
    | true => nms h 4 [p] ρ v
    | false => ρ) io.tail vs
def lookI : List (Id × Id) → Id → Option Id
  | [], _ => none
  | (i, j) :: ρ, x => if x = i then some j else lookI ρ x
mutual
/-- Other names. -/
def AV.ren (ρ : List (Id × Id)) : AV → Option AV
  | .agg cs => (AV.renL ρ cs).map .agg
  | .tuple cs => (AV.renL ρ cs).map .tuple
  | .fn f cs => (AV.renL ρ cs).map (.fn f)
  | .iface t v => (AV.ren ρ v).map (.iface t)
  | .ref id off len => match lookI ρ id with
    | some j => some (.ref j off len)
    | none => none
  | .ptr id idx off => match lookI ρ id with
    | some j => some (.ptr j idx off)
    | none => none
  | v => some v
def AV.renL (ρ : List (Id × Id)) : List AV → Option (List AV)
  | [] => some []
  | c :: cs => match AV.ren ρ c with
    | some c' => (AV.renL ρ cs).map (c' :: ·)
    | none => none
end
def renBlk (ρ : List (Id × Id)) (b : Blk) : Option Blk := match b.isVar with
  | true => match AV.renL ρ b.els with
    | some els => some { b with els := els }
    | none => none
  | false => some b
def renBlks (ρ : List (Id × Id)) : List Blk → Option (List Blk)
  | [] => some []
  | b :: bs => match renBlk ρ b, renBlks ρ bs with
    | some b', some bs' => some (b' :: bs')
    | _, _ => none
def lentBlks (h : Heap) (ρ : List (Id × Id)) : List (Id × Id) → Option (List (Id × Id × Blk))
  | [] => some []
  | (i, j) :: l => match h i, lentBlks h ρ l with
    | some b, some l' => match renBlk ρ b with
      | some b' => some ((i, j, b') :: l')
      | none => none
    | _, _ => none
/-- The arguments as the callee sees them; whether something of the caller's own is only shown. 'g': the heap without what is lent. -/
def toArgs (g : Heap) (ρ : List (Id × Id)) : List Bool → List AV → Option (List AV × Bool)
  | _, [] => some ([], false)
  | io, v :: vs =>
    match toArgs g ρ io.tail vs with
    | some (vs', s) => match io.headD false with
      | true => match AV.ren ρ v with
        | some v' => some (v' :: vs', s)
        | none => none
      | false => match AV.pack g 3 v with
        | some v' => some (v' :: vs', !v.ids.isEmpty || s)
        | none => none
    | none => none

mutual
/-- An answer's own rows under the caller's names; without names they are told by value. -/
def AV.name (own : List Blk) (ns : Option (List Id)) (ρ : List (Id × Id)) : AV → Option AV
  | .agg cs => (AV.nameL own ns ρ cs).map .agg
  | .tuple cs => (AV.nameL own ns ρ cs).map .tuple
  | .ref id off len => match ownIx id with
    | some k => match own[k]? with
      | some b => match ns with
        | some ids => match ids[k]? with
          | some id => some (.ref id off len)
          | none => none
        | none => if b.isVar = false ∧ off + len ≤ b.els.length then some (.sl b.sz ((b.els.drop off).take len)) else none
      | none => none
    | none => match lookI ρ id with
      | some j => some (.ref j off len)
      | none => none
  | .ptr id idx off => match ownIx id with
    | some k => match ns with
      | some ids => match ids[k]? with
        | some id => some (.ptr id idx off)
        | none => none
      | none => none
    | none => match lookI ρ id with
      | some j => some (.ptr j idx off)
      | none => none
  | .fn f cs => if (AV.idsL cs).isEmpty then some (.fn f cs) else none
  | .iface t v => if v.ids.isEmpty then some (.iface t v) else none
  | v => some v
def AV.nameL (own : List Blk) (ns : Option (List Id)) (ρ : List (Id × Id)) : List AV → Option (List AV)
  | [] => some []
  | c :: cs => match AV.name own ns ρ c with
    | some c' => (AV.nameL own ns ρ cs).map (c' :: ·)
    | none => none
end
def zipIds : List Id → List Blk → List (Id × Blk)
  | i :: is, b :: bs => (i, b) :: zipIds is bs
  | _, _ => []
def nodupB : List Id → Bool
  | [] => true
  | i :: is => !decide (i ∈ is) && nodupB is

def slC : AV → Bool
  | .sl _ es => !AV.sharesL es
  | c => plainC c
/-- Does a block hold nothing of what a call was shown? -/
def blkFlat (_ : Program) (b : Blk) : Bool := match b.sub with
  | none => !AV.sharesL b.els
  | some _ => !b.isVar && b.els.all fun e => (cellsOf e).all slC
/-- New rows, of which it is forgotten that they own what their elements show. -/
def flatB (fl : Bool) (bs : List Blk) : List Blk := match fl with
  | true => bs.map fun b => { b with sub := none }
  | false => bs
def callDone (P : Program) (np : Nat) (fl : Bool) (h : Heap) (ns : Option (List Id)) (lent : List (Id × Id × Blk)) (shown : Bool) (K : List Id) (r : Res) : Option Eff :=
  if shown && (r.val.shares || !(r.io.all (blkFlat P)) || !(r.own.all (blkFlat P))) then none else
  if r.io.length ≠ lent.length then none else
  match AV.name r.own ns (lent.map fun x => (x.2.1, x.1)) r.val, renBlks (lent.map fun x => (x.2.1, x.1)) r.io with
  | some v, some io' =>
    let ios := zipIds (lent.map (·.1)) io'
    match ns with
    | none => some { val := v, ups := ios, kills := K }
    | some ids => if ids.length = r.own.length ∧ ids.all (fun i => decide (np ≤ i.headD 0) && decide (i.length ≤ 3)) then some { val := v, ups := ios ++ zipIds ids (flatB fl r.own), kills := K ++ ids.filter fun i => (h i).isSome } else none
  | _, _ => none
/-- What a call is shown of the caller's own. -/
def shownIds : List Bool → List AV → List Id
  | _, [] => []
  | io, v :: vs => (match io.headD false with
    | true => []
    | false => v.ids) ++ shownIds io.tail vs
/-- A call whose answer may hold what it was shown: that is given up for it. -/
def callGive (P : Program) (np : Nat) (fl : Bool) (h : Heap) (ns : Option (List Id)) (lent : List (Id × Id × Blk)) (ρ : List (Id × Id)) (io : List Bool) (vs : List AV) (r : Res) : Option Eff :=
  match (toArgs (restrH (shownIds io vs) (hideH (ρ.map (·.1)) h)) ρ io vs).isSome && lent.all (fun x => !decide (x.1 ∈ shownIds io vs)) && (ns.getD []).all (fun i => !decide (i ∈ shownIds io vs)) with
  | true => callDone P np fl h ns lent false (shownIds io vs) r
  | false => none
def acall (P : Program) (E : Oracle) (A : FuncId → Ann) (an : Ann) (d : Nat) (f : AV) (args : List AV) (h : Heap) : Option Eff :=
  match f with
  | .fn g caps =>
    let ρ := lendNms h 0 [] (A g).io (args ++ caps)
    match toArgs (hideH (ρ.map (·.1)) h) ρ (A g).io (args ++ caps), lentBlks h ρ ρ with
    | some (args', shown), some lent =>
      if nodupB (lent.map (·.1)) && nodupB (lent.map (·.2.1)) && lent.all (fun x => decide (x.2.1.headD 0 < args'.length) && decide (x.2.1.length ≤ 3)) then
        match E g args' (lent.map (·.2)) with
        | some r =>
          let ns := (lookupD (an.own.map fun x => (x.1, some x.2)) d none).map (List.take r.own.length)
          if nodupB (lent.map (·.1) ++ ns.getD []) then
            match callDone P an.np (decide (d ∈ an.fl)) h ns lent shown [] r with
            | some e => some e
            | none => callGive P an.np (decide (d ∈ an.fl)) h ns lent ρ (A g).io (args ++ caps) r
          else none
        | none => none
      else none
    | _, _ => none
  | _ => none

/-- Where a type's values hold slices, and of how many cells an element; nothing where they hold none. -/
def slMap (P : Program) : Nat → TypeId → List (Option Nat)
  | 0, t => List.replicate (tsize P t) none
  | n + 1, t => match P.underlying t with
    | some (.slice e) => [some (tsize P e)]
    | some (.struct fs) => fs.toList.flatMap fun f => slMap P n f.type
    | _ => List.replicate (tsize P t) none
def slOf (P : Program) (t : TypeId) : List (Option Nat) := if (slMap P 4 t).any (·.isSome) then slMap P 4 t else []
def nilSl (m : Nat) : AV → AV
  | .nil => .sl m []
  | v => v
/-- A slice without elements and room is told as one without elements. -/
def canonL : List (Option Nat) → List AV → List AV
  | none :: ms, c :: cs => c :: canonL ms cs
  | some m :: ms, c :: cs => nilSl m c :: canonL ms cs
  | [], cs => cs
  | _ :: _, [] => []
def canon : List (Option Nat) → AV → AV
  | [], v => v
  | some m :: _, .nil => .sl m []
  | ms, .agg cs => .agg (canonL ms cs)
  | _, v => v
def canonArgs (P : Program) : List TypeId → List AV → List AV
  | t :: ts, v :: vs => canon (slOf P t) v :: canonArgs P ts vs
  | _, vs => vs

/-! One operation -/
def val (o : Option AV) : Option Eff := match o with
  | some v => some { val := v }
  | none => none
def aop (P : Program) (E : Oracle) (A : FuncId → Ann) (an : Ann) (o : Oper) (ρ : Operand → AV) (h : Heap) : Option Eff :=
  let d := o.dst.getD 0
  match o.op with
  | .move x => some { val := ρ x }
  | .assign x => some { val := ρ x }
  | .pick c a b => val (apick (ρ c) (ρ a) (ρ b))
  | .alloc t => match tyi P t with
    | some i => if o.dst.isSome ∧ an.np ≤ d ∧ 0 < i.size ∧ i.zero.length = i.size ∧ i.zero.all leaf = true then some (newAt h [d] { isVar := true, ty := t, sz := i.size, els := [mkVal i.ag i.zero] } (.ptr [d] 0 0)) else none
    | none => none
  | .box t x => if o.dst.isSome ∧ an.np ≤ d ∧ (cellsOf (ρ x)).length = tsize P t ∧ (cellsOf (ρ x)).all leaf = true ∧ 0 < tsize P t then some (newAt h [d] { isVar := true, ty := t, sz := tsize P t, els := [ρ x] } (.ptr [d] 0 0)) else none
  | .build t ps => val (abuild P t (ps.toList.map fun p => (p.1, ρ p.2)))
  | .buildSlice t len ps => if o.dst.isSome ∧ an.np ≤ d then abuildSlice P (if an.dp then some an.np else none) h [d] t len (ps.toList.map fun p => (p.1, ρ p.2)) else none
  | .load t a => if d ∈ an.fl then aloadF P an.np h t (ρ a) else val (aload P h t (ρ a))
  | .store t a x => astore P (if an.dp then some an.np else none) h t (ρ a) (ρ x)
  | .nilCheck x => match ρ x with
    | .ptr id i off => some { val := .ptr id i off }
    | .rptr cs => some { val := .rptr cs }
    | _ => none
  | .binOp op t x y _ => match isNilC y with
    | true => val (anil P op t (ρ x))
    | false => val (abin P op t (ρ x) (ρ y))
  | .unOp op _ x => val (aun op (ρ x))
  | .convert s t x => val (aconv P h s t (ρ x))
  | .makeInterface t x => match tkind P t with
    | .iface _ => none
    | .other => none
    | _ => some { val := .iface t (ρ x) }
  | .makeFunc (.func f) first caps => if first.isEmpty then some { val := .fn f (caps.toList.map ρ) } else none
  | .makeSlice t l c => if o.dst.isSome ∧ an.np ≤ d then amake P h [d] t (ρ l) (ρ c) else none
  | .slice t x lo hi mx => val (aslice P h t (ρ x) (lo.map ρ) (hi.map ρ) (mx.map ρ))
  | .fieldAddr t x f => val (afieldAddr P t (ρ x) f)
  | .field t x f => val (afield P t (ρ x) f)
  | .indexAddr t x i => val (aindexAddr P h t (ρ x) (ρ i))
  | .index t x i => val (aindex P t (ρ x) (ρ i))
  | .typeAssert x _ t true => val (atype P (ρ x) t)
  | .extract x i => match ρ x with
    | .tuple vs => val vs[i]?
    | _ => none
  | .call { callee := .builtin .len, args, argTypes } => if argTypes.size = 1 ∧ args.size = 1 then val (alen (tkind P (argTypes.getD 0 0)) (ρ (args.getD 0 default))) else none
  | .call { callee := .builtin .append, args, argTypes } => if argTypes.size = 2 ∧ args.size = 2 ∧ o.dst.isSome ∧ an.np ≤ d then aappend P (if an.dp then some an.np else none) an.np h [d] (argTypes.getD 0 0) (argTypes.getD 1 0) (ρ (args.getD 0 default)) (ρ (args.getD 1 default)) else none
  | .call { callee := .builtin .clear, args, argTypes } => if argTypes.size = 1 ∧ args.size = 1 then aclear P h (argTypes.getD 0 0) (ρ (args.getD 0 default)) else none
  | .call { callee := .builtin .copy, args, argTypes } => if argTypes.size = 2 ∧ args.size = 2 then acopy P h (argTypes.getD 0 0) (ρ (args.getD 0 default)) (ρ (args.getD 1 default)) else none
  | .call { callee := .builtin .max, args, .. } => match args.toList.map ρ with
    | [.int k a, .int k' b] => if k = k' then some { val := .int k (if a < b then b else a) } else none
    | _ => none
  | .call { callee := .builtin .min, args, .. } => match args.toList.map ρ with
    | [.int k a, .int k' b] => if k = k' then some { val := .int k (if b < a then b else a) } else none
    | _ => none
  | .call { callee := .value f, args, argTypes } => acall P E A an d (ρ f) (canonArgs P argTypes.toList (args.toList.map ρ)) h
  | _ => none

/-! Regions -/
def gslot (ops : List Oper) (j : Nat) : Option Nat := (ops[j]?).bind (·.dst)
section
variable (P : Program) (E : Oracle) (A : FuncId → Ann) (an : Ann) (ops : List Oper)
def doOp (o : Oper) (σ : St) : Option St := match aop P E A an o σ.ev σ.heap with
  | some e => some (σ.app e o.dst)
  | none => none
/-- The same, blind for what the names of 'H' hold and for the names of 'V', and held to write none but those of 'W', and to give up none but those of 'K'. -/
def doOpH (H W V K : List Id) (o : Oper) (σ : St) : Option St :=
  match aop P E A an o (fun x => (σ.ev x).kill (inL V)) (maskH H V σ.heap) with
  | some e =>
    if (e.ups.all fun x => decide (x.1 ∈ W)) && e.kills.all fun x => decide (x ∈ K) then
      some (σ.app { val := e.val.kill (inL V), ups := e.ups.map fun x => (x.1, x.2.kill (inL V)), kills := e.kills } o.dst)
    else none
  | none => none
def guarded (o : Oper) (σ : St) (k : Option St) : Option St := match o.guard with
  | none => k
  | some (j, want) => match gslot ops j with
    | some d => match σ.slot d with
      | .bool b => if b = want then k else some ⟨putS σ.slot o.dst (.tuple []), σ.heap⟩
      | .tuple _ => some ⟨putS σ.slot o.dst (.tuple []), σ.heap⟩
      | _ => none
    | none => none
def rops : List Oper → St → Option St
  | [], σ => some σ
  | o :: os, σ => match guarded ops o σ (doOp P E A an o σ) with
    | some σ' => rops os σ'
    | none => none
def makes : Op → Bool
  | .alloc _ => true
  | .box _ _ => true
  | .buildSlice _ _ _ => true
  | .makeSlice _ _ _ => true
  | _ => false
def made1 (op : Op) (d : Nat) : List Id := match makes op with
  | true => [[d]]
  | false => []
def hwOf (r i : Nat) (o : Oper) : List Id × List Id := lookupD an.hw (r, i) ([], made1 o.op (o.dst.getD 0))
def vkL (r i : Nat) (d : List Id × List Id) : List Id × List Id := match lookupD (an.vk.map fun x => (x.1, some x.2)) (r, i) none with
  | some p => p
  | none => d
def vkOf (r i : Nat) (o : Oper) : List Id × List Id := vkL an r i (hwOf an r i o)
def stepH (r i : Nat) (o : Oper) (σ : St) : Option St := guarded ops o σ (doOpH P E A an (hwOf an r i o).1 (hwOf an r i o).2 (vkOf an r i o).1 (vkOf an r i o).2 o σ)
def ropsH (r : Nat) : Nat → List Oper → St → Option St
  | _, [], σ => some σ
  | i, o :: os, σ => match stepH P E A an ops r i o σ with
    | some σ' => ropsH r (i + 1) os σ'
    | none => none
def region (r : Nat) (draw : Bool) (σ : St) : Option St :=
  if draw then ropsH P E A an ops r 0 ops ⟨restr an.vars σ.slot, σ.heap⟩ else rops P E A an ops ops ⟨restr an.vars σ.slot, σ.heap⟩
end

/-! Code -/
inductive Ex where
  | normal | exit (id : Nat) | ret
abbrev Out := Option (Ex × St)
def loopN (b : St → Out) (g : St → St) : Nat → St → Out
  | 0, _ => none
  | n + 1, σ => match b σ with
    | some (.normal, σ') => loopN b g n (g σ')
    | r => r
open Classical in
noncomputable def loopE (b : St → Out) (g : St → St) (σ : St) : Out :=
  if h : ∃ n r, loopN b g n σ = some r then some (Classical.choose (Classical.choose_spec h)) else none
def cutSt (vs : List Nat) (is : List Id) (σ : St) : St := ⟨killS (outL is) (restr vs σ.slot), killH (outL is) (restrH is σ.heap)⟩
def keepSt (an : Ann) (blk : Nat) (σ : St) : St :=
  let k := lookupD an.keep blk ([], [])
  cutSt k.1 k.2 σ
def outSt (an : Ann) (i : Nat) (σ : St) : St := match lookupD (an.outs.map fun x => (x.1, some x.2)) i none with
  | some k => cutSt k.1 k.2 σ
  | none => σ
noncomputable def exec (P : Program) (E : Oracle) (A : FuncId → Ann) (an : Ann) : Code → Nat → St → Out
  | .skip, _, σ => some (.normal, σ)
  | .region id os draw, _, σ => match region P E A an os.toList id draw σ with
    | some σ' => some (.normal, σ')
    | none => none
  | .seq a b, k, σ => match exec P E A an a k σ with
    | some (.normal, σ') => exec P E A an b k σ'
    | r => r
  | .cond c a b, k, σ => match σ.ev c with
    | .bool t => if t then exec P E A an a k σ else exec P E A an b k σ
    | _ => none
  | .block id c, _, σ => match exec P E A an c id σ with
    | some (.exit i, σ') => if i = id then some (.normal, σ') else some (.exit i, σ')
    | r => r
  | .loop c, k, σ => loopE (exec P E A an c k) (keepSt an k) (keepSt an k σ)
  | .exit id, _, σ => some (.exit id, outSt an id σ)
  | .ret, _, σ => some (.ret, outSt an 1000000 σ)
  | _, _, _ => none

/-! Functions -/
def slotsOf : Nat → List AV → Slots
  | _, [] => D0
  | k, a :: avs => U (slotsOf (k + 1) avs) k a
def heapOf : List (Id × Blk) → Heap
  | [] => HE
  | (i, b) :: l => HU (heapOf l) i b
def resVar (P : Program) (σ : St) : ResultVar → Option AV
  | .tmp t => some (σ.slot t)
  | .cell a t => aload P σ.heap t (σ.slot a)
def resVars (P : Program) (σ : St) : List ResultVar → Option (List AV)
  | [] => some []
  | r :: rs => match resVar P σ r, resVars P σ rs with
    | some v, some vs => some (v :: vs)
    | _, _ => none
mutual
/-- An answer's own rows, each told by its place among them. -/
def AV.expo (ks : List Id) : List Id → AV → Option (AV × List Id)
  | l, .agg cs => match AV.expoL ks l cs with
    | some (cs', l') => some (.agg cs', l')
    | none => none
  | l, .tuple cs => match AV.expoL ks l cs with
    | some (cs', l') => some (.tuple cs', l')
    | none => none
  | l, .ref id off len => match decide (id ∈ ks) with
    | true => some (.ref id off len, l)
    | false => if id ∈ l then none else some (.ref [l.length, 0, 0, 0] off len, l ++ [id])
  | l, .ptr id idx off => match decide (id ∈ ks) with
    | true => some (.ptr id idx off, l)
    | false => if id ∈ l then none else some (.ptr [l.length, 0, 0, 0] idx off, l ++ [id])
  | l, .fn f cs => if (AV.idsL cs).isEmpty then some (.fn f cs, l) else none
  | l, .iface t v => if v.ids.isEmpty then some (.iface t v, l) else none
  | l, v => some (v, l)
def AV.expoL (ks : List Id) : List Id → List AV → Option (List AV × List Id)
  | l, [] => some ([], l)
  | l, c :: cs => match AV.expo ks l c with
    | some (c', l') => match AV.expoL ks l' cs with
      | some (cs', l'') => some (c' :: cs', l'')
      | none => none
    | none => none
end
def blksOf (h : Heap) : List Id → Option (List Blk)
  | [] => some []
  | i :: is => match h i, blksOf h is with
    | some b, some bs => if b.isVar && !(AV.idsL b.els).isEmpty then none else some (b :: bs)
    | _, _ => none
mutual
/-- By value, but for the names of 'ks'. -/
def AV.kpack (ks : List Id) (g : Heap) : AV → Option AV
  | .agg cs => (AV.kpackL ks g cs).map .agg
  | .tuple cs => (AV.kpackL ks g cs).map .tuple
  | .fn f cs => (AV.kpackL ks g cs).map (.fn f)
  | .iface t v => (AV.kpack ks g v).map (.iface t)
  | .ref id off len => match decide (id ∈ ks) with
    | true => some (.ref id off len)
    | false => AV.pack g 3 (.ref id off len)
  | .ptr id idx off => match decide (id ∈ ks) with
    | true => some (.ptr id idx off)
    | false => AV.pack g 3 (.ptr id idx off)
  | v => some v
def AV.kpackL (ks : List Id) (g : Heap) : List AV → Option (List AV)
  | [] => some []
  | c :: cs => match AV.kpack ks g c with
    | some c' => (AV.kpackL ks g cs).map (c' :: ·)
    | none => none
end
def ioOut (ks : List Id) (h g : Heap) : List (Id × Blk) → Option (List Blk)
  | [] => some []
  | (i, b0) :: l => match h i, ioOut ks h g l with
    | some b, some bs => if b.isVar = b0.isVar ∧ b.ty = b0.ty then
        if b.isVar then match AV.kpackL ks g b.els with
          | some els => some ({ b with els := els } :: bs)
          | none => none
        else some (b :: bs)
      else none
    | _, _ => none
def answer (P : Program) (fn : Func) (H : List (Id × Blk)) (σ : St) : Option Res :=
  match resVars P σ fn.results.toList with
  | some vs =>
    match AV.expo (H.map (·.1)) [] (match vs with | [v] => v | vs => .tuple vs) with
    | some (v, ids) => match blksOf σ.heap ids, ioOut (H.map (·.1)) σ.heap (hideH (H.map (·.1) ++ ids) σ.heap) H with
      | some own, some io => if ids.any fun i => (H.map (·.1)).contains i then none else some { val := v, io := io, own := own }
      | _, _ => none
    | none => none
  | none => none
/-- Does a function's code write no slot beyond its frame? -/
def slotsIn (n : Nat) : Code → Bool
  | .region _ os _ => os.toList.all fun o => match o.dst with
    | some d => decide (d < n)
    | none => true
  | .seq a b => slotsIn n a && slotsIn n b
  | .cond _ a b => slotsIn n a && slotsIn n b
  | .block _ c => slotsIn n c
  | .loop c => slotsIn n c
  | _ => true
/-- What an operation looks at. -/
def looks (ops : List Oper) (o : Oper) : List Nat := (o.op.operands.toList.filterMap fun | .tmp t => some t | _ => none) ++ match o.guard with
  | some (j, _) => (gslot ops j).toList
  | none => []
def preds (o : Oper) : List Nat := (o.after.toList.filter (Region.binds .any ·)).map (·.on)
def ancs : List Oper → List (List Nat) → List (List Nat)
  | [], T => T
  | o :: os, T => ancs os (T ++ [(preds o ++ (preds o).flatMap fun d => T.getD d []).eraseDups])
def ancOK (os : List Oper) (T : List (List Nat)) : Bool := (List.range os.length).all fun i => (T.getD i []).all fun j => decide (j ∈ preds (os.getD i default)) || (preds (os.getD i default)).any fun d => decide (j ∈ T.getD d [])
def apartB (an : Ann) (r : Nat) (ops : List Oper) (i j : Nat) : Bool :=
  let oi := ops.getD i default
  let oj := ops.getD j default
  (match oi.dst, oj.dst with | some a, some b => a != b | _, _ => true) &&
  (match oi.dst with | some a => !decide (a ∈ looks ops oj) | none => true) && (match oj.dst with | some b => !decide (b ∈ looks ops oi) | none => true) &&
  ((hwOf an r i oi).2.all fun x => decide (x ∈ (hwOf an r j oj).1)) && ((hwOf an r j oj).2.all fun x => decide (x ∈ (hwOf an r i oi).1)) &&
  ((vkOf an r i oi).2.all fun x => decide (x ∈ (vkOf an r j oj).1)) && (vkOf an r j oj).2.all fun x => decide (x ∈ (vkOf an r i oi).1)
/-- Is a region that draws its order told apart enough? -/
def drawOK (an : Ann) (r : Nat) (ops : List Oper) : Bool :=
  let T := ancs ops []
  ancOK ops T && (List.range ops.length).all fun i =>
    let o := ops.getD i default
    ((preds o).all fun d => decide (d < i)) && ((hwOf an r i o).2.all fun x => !decide (x ∈ (hwOf an r i o).1)) && ((vkOf an r i o).2.all fun x => decide (x ∈ (hwOf an r i o).2)) && (List.range i).all fun j => decide (j ∈ T.getD i []) || apartB an r ops j i
def drawsOK (an : Ann) : Code → Bool
  | .region id os draw => !draw || drawOK an id os.toList
  | .seq a b => drawsOK an a && drawsOK an b
  | .cond _ a b => drawsOK an a && drawsOK an b
  | .block _ c => drawsOK an c
  | .loop c => drawsOK an c
  | _ => true
/-- May a function's code be read so? -/
def codeOK (an : Ann) (fn : Func) (c : Code) : Bool := slotsIn fn.ntmps c && drawsOK an c && fn.name != "runtime.NumGoroutine"
noncomputable def execFn (C : Ctx) (E : Oracle) (f : FuncId) (args : List AV) (H : List (Id × Blk)) : Option Res :=
  if ((C.A f).ext && (C.X f args H).isSome) || (C.A f).np != args.length then none else
  match C.P.funcs[f]? with
  | some fn => match fn.body with
    | some c => if !codeOK (C.A f) fn c then none else match exec C.P E C.A (C.A f) c 0 ⟨slotsOf 0 args, heapOf H⟩ with
      | some (.normal, σ) => answer C.P fn H σ
      | some (.ret, σ) => answer C.P fn H σ
      | _ => none
    | none => none
  | none => none
/-- What a call comes to. -/
inductive Run (C : Ctx) : FuncId → List AV → List (Id × Blk) → Res → Prop
  | ext {f args H r} : (C.A f).ext = true → C.X f args H = some r → Run C f args H r
  | body {f args H r} (O : Oracle) : (∀ g avs K s, O g avs K = some s → Run C g avs K s) → execFn C O f args H = some r → Run C f args H r
open Classical in
noncomputable def E (C : Ctx) : Oracle := fun f args H => if h : ∃ r, Run C f args H r then some (Classical.choose h) else none
end Go.Proofs.YtndgpinhbffleaaGreat


namespace Go.Proofs.YtndgpinhbffleaaGreat
open Go

theorem U_at (f : Slots) (k x : Nat) (v : AV) : U f k v x = if x = k then v else f x := rfl
theorem D0_at (x : Nat) : D0 x = .dead := rfl
theorem HU_at (h : Heap) (k x : Id) (b : Blk) : HU h k b x = if x = k then some b else h x := rfl
theorem HE_at (x : Id) : HE x = none := rfl
theorem restr_nil (f : Slots) : restr [] f = D0 := by funext x; simp [restr, D0]
theorem restr_cons (v : Nat) (vs : List Nat) (f : Slots) : restr (v :: vs) f = U (restr vs f) v (f v) := by
  funext x; by_cases h : x = v <;> simp [restr, U, h]
theorem restrH_nil (h : Heap) : restrH [] h = HE := by funext x; simp [restrH, HE]
theorem restrH_cons (i : Id) (is : List Id) (h : Heap) : restrH (i :: is) h = match h i with
    | some b => HU (restrH is h) i b
    | none => fun x => if x = i then none else restrH is h x := by
  cases hb : h i <;> funext x <;> by_cases e : x = i <;> simp [restrH, HU, e, hb]
theorem killS_D0 (K : Id → Bool) : killS K D0 = D0 := by funext x; simp [killS, D0, AV.kill]
theorem killS_U (K : Id → Bool) (f : Slots) (k : Nat) (v : AV) : killS K (U f k v) = U (killS K f) k (v.kill K) := by
  funext x; by_cases h : x = k <;> simp [killS, U, h]
theorem killH_HE (K : Id → Bool) : killH K HE = HE := by
  funext x; simp only [killH, HE]
  cases K x <;> rfl
theorem HO_at (h : Heap) (k x : Id) : HO h k x = if x = k then none else h x := rfl
theorem HO_HE (k : Id) : HO HE k = HE := by funext x; simp [HO, HE]
theorem killH_HU (K : Id → Bool) (h : Heap) (i : Id) (b : Blk) : killH K (HU h i b) = match K i with
    | true => HO (killH K h) i
    | false => HU (killH K h) i (b.kill K) := by
  cases hk : K i <;> funext x <;> by_cases e : x = i <;> simp [killH, HU, HO, e, hk]
theorem killH_HO (K : Id → Bool) (h : Heap) (i : Id) : killH K (HO h i) = HO (killH K h) i := by
  funext x; by_cases e : x = i
  · subst e; simp only [killH, HO, if_pos]; cases K x <;> rfl
  · simp [killH, HO, e]
theorem maskH_HE (H V : List Id) : maskH H V HE = HE := by
  funext x; simp only [maskH, HE]
  cases inL H x <;> rfl
theorem maskH_HU (H V : List Id) (h : Heap) (i : Id) (b : Blk) : maskH H V (HU h i b) = match inL H i with
    | true => HO (maskH H V h) i
    | false => HU (maskH H V h) i (b.kill (inL V)) := by
  cases hk : inL H i <;> funext x <;> by_cases e : x = i <;> simp [maskH, HU, HO, e, hk]
theorem maskH_HO (H V : List Id) (h : Heap) (i : Id) : maskH H V (HO h i) = HO (maskH H V h) i := by
  funext x; by_cases e : x = i
  · subst e; simp only [maskH, HO, if_pos]; cases inL H x <;> rfl
  · simp [maskH, HO, e]
theorem HU_HU (h : Heap) (i : Id) (a b : Blk) : HU (HU h i a) i b = HU h i b := by
  funext x; by_cases e : x = i <;> simp [HU, e]
theorem HU_HO (h : Heap) (i : Id) (b : Blk) : HU (HO h i) i b = HU h i b := by
  funext x; by_cases e : x = i <;> simp [HU, HO, e]
theorem HO_HU (h : Heap) (i : Id) (b : Blk) : HO (HU h i b) i = HO h i := by
  funext x; by_cases e : x = i <;> simp [HU, HO, e]
theorem inL_at0 (x : Id) : inL [] x = false := by simp [inL]
theorem inL_at1 (y : Id) (l : List Id) (x : Id) : inL (y :: l) x = if x = y then true else inL l x := by
  by_cases h : x = y <;> simp [inL, h]
theorem outL_at0 (x : Id) : outL [] x = true := by simp [outL]
theorem outL_at1 (y : Id) (l : List Id) (x : Id) : outL (y :: l) x = if x = y then false else outL l x := by
  by_cases h : x = y <;> simp [outL, h]

/-! A stack of what is left to do. -/
inductive It where
  | code (c : Code) (k : Nat)
  | blk (id : Nat)
section
variable (C : Ctx) (an : Ann)
noncomputable abbrev ex (c : Code) (k : Nat) (σ : St) : Out := exec C.P (E C) C.A an c k σ
mutual
noncomputable def run : List It → St → Out
  | [], σ => some (.normal, σ)
  | .code c k :: l, σ => match ex C an c k σ with
    | some (.normal, σ') => run l σ'
    | some (e, σ') => unw e l σ'
    | none => none
  | .blk _ :: l, σ => run l σ
noncomputable def unw : Ex → List It → St → Out
  | e, [], σ => some (e, σ)
  | .exit i, .blk j :: l, σ => if i = j then run l σ else unw (.exit i) l σ
  | e, _ :: l, σ => unw e l σ
end
theorem unw_normal_code (c : Code) (k : Nat) (l : List It) (σ : St) : unw C an .normal (.code c k :: l) σ = unw C an .normal l σ := by simp [unw]
theorem run_nil (σ : St) : run C an [] σ = some (.normal, σ) := by simp [run]
theorem run_blk (j : Nat) (l : List It) (σ : St) : run C an (.blk j :: l) σ = run C an l σ := by simp [run]
theorem run_skip (k : Nat) (l : List It) (σ : St) : run C an (.code .skip k :: l) σ = run C an l σ := by simp [run, exec]
theorem run_ret (k : Nat) (l : List It) (σ : St) : run C an (.code .ret k :: l) σ = unw C an .ret l (outSt an 1000000 σ) := by simp [run, exec]
theorem run_exit (i k : Nat) (l : List It) (σ : St) : run C an (.code (.exit i) k :: l) σ = unw C an (.exit i) l (outSt an i σ) := by simp [run, exec]
theorem unw_nil (e : Ex) (σ : St) : unw C an e [] σ = some (e, σ) := by cases e <;> simp [unw]
theorem unw_ret_code (c : Code) (k : Nat) (l : List It) (σ : St) : unw C an .ret (.code c k :: l) σ = unw C an .ret l σ := by simp [unw]
theorem unw_ret_blk (j : Nat) (l : List It) (σ : St) : unw C an .ret (.blk j :: l) σ = unw C an .ret l σ := by simp [unw]
theorem unw_exit_code (i : Nat) (c : Code) (k : Nat) (l : List It) (σ : St) : unw C an (.exit i) (.code c k :: l) σ = unw C an (.exit i) l σ := by simp [unw]
theorem unw_exit_blk (i j : Nat) (l : List It) (σ : St) : unw C an (.exit i) (.blk j :: l) σ = if i = j then run C an l σ else unw C an (.exit i) l σ := by simp [unw]
theorem run_seq (a b : Code) (k : Nat) (l : List It) (σ : St) : run C an (.code (a.seq b) k :: l) σ = run C an (.code a k :: .code b k :: l) σ := by
  simp only [run, ex, exec]
  cases exec C.P (E C) C.A an a k σ with
  | none => rfl
  | some r => obtain ⟨e, σ'⟩ := r; cases e <;> simp [unw]
theorem run_cond (c : Operand) (a b : Code) (k : Nat) (l : List It) (σ : St) : run C an (.code (.cond c a b) k :: l) σ = match σ.ev c with
    | .bool t => if t then run C an (.code a k :: l) σ else run C an (.code b k :: l) σ
    | _ => none := by
  simp only [run, ex, exec]
  cases σ.ev c with
  | bool t => cases t <;> rfl
  | _ => rfl
theorem run_block (i : Nat) (c : Code) (k : Nat) (l : List It) (σ : St) : run C an (.code (.block i c) k :: l) σ = run C an (.code c i :: .blk i :: l) σ := by
  simp only [run, ex, exec]
  cases exec C.P (E C) C.A an c i σ with
  | none => rfl
  | some r =>
    obtain ⟨e, σ'⟩ := r
    cases e with
    | exit j => by_cases h : j = i <;> simp [unw, h]
    | _ => simp [unw]
/-- What a loop leaves, handed on. -/
noncomputable def after (r : Out) (l : List It) : Out := match r with
  | some (.normal, σ') => run C an l σ'
  | some (e, σ') => unw C an e l σ'
  | none => none
noncomputable def lp (c : Code) (k : Nat) (σ : St) : Out := loopE (ex C an c k) (keepSt an k) σ
theorem run_loop (c : Code) (k : Nat) (l : List It) (σ : St) : run C an (.code (.loop c) k :: l) σ = after C an (lp C an c k (keepSt an k σ)) l := by
  simp only [run, ex, exec, after, lp]
theorem after_exit (i : Nat) (σ : St) (l : List It) : after C an (some (.exit i, σ)) l = unw C an (.exit i) l σ := rfl
theorem after_ret (σ : St) (l : List It) : after C an (some (.ret, σ)) l = unw C an .ret l σ := rfl
/-- A region's operations, one by one. -/
noncomputable def ro (ops os : List Oper) (l : List It) (σ : St) : Out := match rops C.P (E C) C.A an ops os σ with
  | some σ' => run C an l σ'
  | none => none
noncomputable def rh (ops : List Oper) (r i : Nat) (os : List Oper) (l : List It) (σ : St) : Out := match ropsH C.P (E C) C.A an ops r i os σ with
  | some σ' => run C an l σ'
  | none => none
theorem run_region (id : Nat) (os : List Oper) (k : Nat) (l : List It) (σ : St) : run C an (.code (.region id os.toArray false) k :: l) σ = ro C an os os l ⟨restr an.vars σ.slot, σ.heap⟩ := by
  simp only [run, ex, exec, ro, region]
  simp
  cases rops C.P (E C) C.A an os os _ <;> rfl
theorem run_regionH (id : Nat) (os : List Oper) (k : Nat) (l : List It) (σ : St) : run C an (.code (.region id os.toArray true) k :: l) σ = rh C an os id 0 os l ⟨restr an.vars σ.slot, σ.heap⟩ := by
  simp only [run, ex, exec, rh, region]
  simp
  cases ropsH C.P (E C) C.A an os id 0 os _ <;> rfl
theorem ro_nil (ops : List Oper) (l : List It) (σ : St) : ro C an ops [] l σ = run C an l σ := rfl
theorem rh_nil (ops : List Oper) (r i : Nat) (l : List It) (σ : St) : rh C an ops r i [] l σ = run C an l σ := rfl
/-- One operation, then the rest. -/
noncomputable def op1 (o : Oper) (K : St → Out) (σ : St) : Out := match aop C.P (E C) C.A an o σ.ev σ.heap with
  | some e => K (σ.app e o.dst)
  | none => none
theorem ro_cons (ops : List Oper) (d : Option Nat) (op : Op) (t : TypeId) (p : String) (af : Array Edge) (os : List Oper) (l : List It) (σ : St) :
    ro C an ops (⟨d, op, t, p, af, none⟩ :: os) l σ = op1 C an ⟨d, op, t, "", #[], none⟩ (ro C an ops os l) σ := by
  simp only [ro, rops, guarded, doOp, op1]
  have : aop C.P (E C) C.A an ⟨d, op, t, p, af, none⟩ σ.ev σ.heap = aop C.P (E C) C.A an ⟨d, op, t, "", #[], none⟩ σ.ev σ.heap := rfl
  rw [this]
  cases aop C.P (E C) C.A an ⟨d, op, t, "", #[], none⟩ σ.ev σ.heap <;> rfl
theorem ro_guard (ops : List Oper) (d : Option Nat) (op : Op) (t : TypeId) (p : String) (af : Array Edge) (j : Nat) (w : Bool) (os : List Oper) (l : List It) (σ : St) :
    ro C an ops (⟨d, op, t, p, af, some (j, w)⟩ :: os) l σ = match gslot ops j with
      | some g => match σ.slot g with
        | .bool b => if b = w then op1 C an ⟨d, op, t, "", #[], none⟩ (ro C an ops os l) σ else ro C an ops os l ⟨putS σ.slot d (.tuple []), σ.heap⟩
        | .tuple _ => ro C an ops os l ⟨putS σ.slot d (.tuple []), σ.heap⟩
        | _ => none
      | none => none := by
  simp only [ro, rops, guarded, doOp, op1]
  have : aop C.P (E C) C.A an ⟨d, op, t, p, af, some (j, w)⟩ σ.ev σ.heap = aop C.P (E C) C.A an ⟨d, op, t, "", #[], none⟩ σ.ev σ.heap := rfl
  rw [this]
  cases gslot ops j with
  | none => rfl
  | some g =>
    cases hb : σ.slot g with
    | bool b =>
      simp only [hb]
      by_cases e : b = w
      · simp only [e, if_true]
        cases aop C.P (E C) C.A an ⟨d, op, t, "", #[], none⟩ σ.ev σ.heap <;> rfl
      · simp only [e, if_false]
    | _ => simp only [hb]
/-- One masked operation, then the rest. -/
noncomputable def op1H (H W V L : List Id) (o : Oper) (K : St → Out) (σ : St) : Out := match doOpH C.P (E C) C.A an H W V L o σ with
  | some σ' => K σ'
  | none => none
theorem rh_cons (ops : List Oper) (r i : Nat) (d : Option Nat) (op : Op) (t : TypeId) (p : String) (af : Array Edge) (os : List Oper) (l : List It) (σ : St) :
    rh C an ops r i (⟨d, op, t, p, af, none⟩ :: os) l σ = op1H C an (lookupD an.hw (r, i) ([], made1 op (d.getD 0))).1 (lookupD an.hw (r, i) ([], made1 op (d.getD 0))).2 (vkL an r i (lookupD an.hw (r, i) ([], made1 op (d.getD 0)))).1 (vkL an r i (lookupD an.hw (r, i) ([], made1 op (d.getD 0)))).2 ⟨d, op, t, "", #[], none⟩ (rh C an ops r (i + 1) os l) σ := by
  simp only [rh, ropsH, stepH, guarded, op1H, hwOf, vkOf]
  have : ∀ H W V L, doOpH C.P (E C) C.A an H W V L ⟨d, op, t, p, af, none⟩ σ = doOpH C.P (E C) C.A an H W V L ⟨d, op, t, "", #[], none⟩ σ := fun _ _ _ _ => rfl
  rw [this]
  cases doOpH C.P (E C) C.A an _ _ _ _ ⟨d, op, t, "", #[], none⟩ σ <;> rfl
theorem rh_guard (ops : List Oper) (r i : Nat) (d : Option Nat) (op : Op) (t : TypeId) (p : String) (af : Array Edge) (j : Nat) (w : Bool) (os : List Oper) (l : List It) (σ : St) :
    rh C an ops r i (⟨d, op, t, p, af, some (j, w)⟩ :: os) l σ = match gslot ops j with
      | some g => match σ.slot g with
        | .bool b => if b = w then op1H C an (lookupD an.hw (r, i) ([], made1 op (d.getD 0))).1 (lookupD an.hw (r, i) ([], made1 op (d.getD 0))).2 (vkL an r i (lookupD an.hw (r, i) ([], made1 op (d.getD 0)))).1 (vkL an r i (lookupD an.hw (r, i) ([], made1 op (d.getD 0)))).2 ⟨d, op, t, "", #[], none⟩ (rh C an ops r (i + 1) os l) σ
          else rh C an ops r (i + 1) os l ⟨putS σ.slot d (.tuple []), σ.heap⟩
        | .tuple _ => rh C an ops r (i + 1) os l ⟨putS σ.slot d (.tuple []), σ.heap⟩
        | _ => none
      | none => none := by
  simp only [rh, ropsH, stepH, guarded, op1H, hwOf, vkOf]
  have : ∀ H W V L, doOpH C.P (E C) C.A an H W V L ⟨d, op, t, p, af, some (j, w)⟩ σ = doOpH C.P (E C) C.A an H W V L ⟨d, op, t, "", #[], none⟩ σ := fun _ _ _ _ => rfl
  rw [this]
  cases gslot ops j with
  | none => rfl
  | some g =>
    cases hb : σ.slot g with
    | bool b =>
      simp only [hb]
      by_cases e : b = w
      · simp only [e, if_true]
        cases doOpH C.P (E C) C.A an _ _ _ _ ⟨d, op, t, "", #[], none⟩ σ <;> rfl
      · simp only [e, if_false]
    | _ => simp only [hb]
end
end Go.Proofs.YtndgpinhbffleaaGreat


namespace Go.Proofs.YtndgpinhbffleaaGreat
open Go

theorem restrH_some {h : Heap} {i : Id} {is : List Id} {b : Blk} (e : h i = some b) : restrH (i :: is) h = HU (restrH is h) i b := by rw [restrH_cons, e]
theorem restrH_none {h : Heap} {i : Id} {is : List Id} (e : h i = none) : restrH (i :: is) h = restrH is h := by
  funext x
  by_cases hx : x = i
  · subst hx; simp [restrH, e]
  · simp [restrH, hx]
theorem restrH_if (i : Id) (is : List Id) (h : Heap) : restrH (i :: is) h = match h i with
    | some b => HU (restrH is h) i b
    | none => restrH is h := by
  cases e : h i with
  | none => exact restrH_none e
  | some b => exact restrH_some e
section
variable (C : Ctx) (an : Ann)
theorem op1_eq (o : Oper) (K : St → Out) (s : Slots) (h : Heap) : op1 C an o K ⟨s, h⟩ = match aop C.P (E C) C.A an o (St.ev ⟨s, h⟩) h with
  | some e => K (St.app ⟨s, h⟩ e o.dst)
  | none => none := rfl
theorem op1H_eq (H W V L : List Id) (o : Oper) (K : St → Out) (s : Slots) (h : Heap) : op1H C an H W V L o K ⟨s, h⟩ = match aop C.P (E C) C.A an o (fun x => (St.ev ⟨s, h⟩ x).kill (inL V)) (maskH H V h) with
  | some e =>
    if (e.ups.all fun x => decide (x.1 ∈ W)) && e.kills.all fun x => decide (x ∈ L) then
      K (St.app ⟨s, h⟩ { val := e.val.kill (inL V), ups := e.ups.map fun x => (x.1, x.2.kill (inL V)), kills := e.kills } o.dst)
    else none
  | none => none := by
  simp only [op1H, doOpH]
  cases aop C.P (E C) C.A an o (fun x => (St.ev ⟨s, h⟩ x).kill (inL V)) (maskH H V h) with
  | none => rfl
  | some e => by_cases hc : ((e.ups.all fun x => decide (x.1 ∈ W)) && e.kills.all fun x => decide (x ∈ L)) = true <;> simp only [hc] <;> simp
end
mutual
theorem kill_nil (K : Id → Bool) (hK : ∀ i, K i = false) : ∀ v : AV, v.kill K = v
  | .agg cs => by simp [AV.kill, killL_nil K hK cs]
  | .ref id off len => by simp [AV.kill, hK]
  | .ptr id idx off => by simp [AV.kill, hK]
  | .fn f cs => by simp [AV.kill, killL_nil K hK cs]
  | .iface t v => by simp [AV.kill, kill_nil K hK v]
  | .tuple vs => by simp [AV.kill, killL_nil K hK vs]
  | .dead => rfl
  | .int _ _ => rfl
  | .bool _ => rfl
  | .str _ => rfl
  | .sl _ _ => rfl
  | .nil => rfl
  | .rptr _ => rfl
  | .nilfn => rfl
  | .niliface => rfl
  | .nilptr => rfl
theorem killL_nil (K : Id → Bool) (hK : ∀ i, K i = false) : ∀ l : List AV, AV.killL K l = l
  | [] => rfl
  | c :: cs => by simp [AV.killL, kill_nil K hK c, killL_nil K hK cs]
end
theorem killB_nil (K : Id → Bool) (hK : ∀ i, K i = false) (b : Blk) : b.kill K = b := by
  obtain ⟨v, t, n, l, u⟩ := b
  cases v <;> simp [Blk.kill, killL_nil K hK]
theorem inL_nil (i : Id) : inL [] i = false := by simp [inL]
theorem kill_inNil (v : AV) : v.kill (inL []) = v := kill_nil _ inL_nil v
theorem killB_inNil (b : Blk) : b.kill (inL []) = b := killB_nil _ inL_nil b
theorem killH_inNil (h : Heap) : killH (inL []) h = h := by
  funext x; simp only [killH, inL_nil]
  cases h x <;> simp [killB_inNil]
theorem maskH_inNil (h : Heap) : maskH [] [] h = h := by
  funext x; simp only [maskH, inL_nil]
  cases h x <;> simp [killB_inNil]
attribute [go_sem] maskH_HE maskH_HU maskH_HO maskH_inNil vkL
attribute [go_sem] U_at D0_at HU_at HE_at restr_nil restr_cons restrH_nil restrH_if killS_D0 killS_U killH_HE killH_HU HO_at HO_HE killH_HO HU_HU HU_HO HO_HU inL_at0 inL_at1 outL_at0 outL_at1 kill_inNil killB_inNil killH_inNil
attribute [go_sem] unw_normal_code run_nil run_blk run_skip run_ret run_exit unw_nil unw_ret_code unw_ret_blk unw_exit_code unw_exit_blk run_seq run_cond run_block run_loop after_exit after_ret run_region run_regionH ro_nil rh_nil ro_cons ro_guard rh_cons rh_guard op1_eq op1H_eq
attribute [go_sem] canonArgs canon canonL nilSl isNilC anil ownIx made1 makes whole aop abin aint aun apick aconv bytesOf elsOf cellsAt aload aloadF splice astore setParts abuild frzParts setEls abuildSlice builtSub adopt adoptT firstT joinSub moved veil veilL veilE veilC plainE plainC slC amake abound aslice asliceS afieldAddr afield aindexAddr aindex alen aappend aclear acopy preAV atype acall val newAt hideH addN nmsL nms lendNms lookI AV.ren AV.renL renBlk renBlks lentBlks AV.kpack AV.kpackL callDone callGive flatB shownIds blkFlat toArgs zipIds nodupB AV.name AV.nameL AV.frz AV.pack AV.packL AV.ids AV.idsL AV.shares AV.sharesL AV.kill AV.killL Blk.kill AV.ofValue AV.ofCell cellsOf leaf mkVal lookupD keepSt outSt cutSt St.app St.ev upds putS gslot slotsOf heapOf resVar resVars AV.expo AV.expoL blksOf ioOut answer aeq aeq.go
end Go.Proofs.YtndgpinhbffleaaGreat


namespace Go.Proofs.YtndgpinhbffleaaGreat
open Go

theorem loopN_mono {b : St → Out} {g : St → St} {n : Nat} {σ : St} {r : Ex × St} : loopN b g n σ = some r → ∀ m, n ≤ m → loopN b g m σ = some r := by
  induction n generalizing σ with
  | zero => intro h; simp [loopN] at h
  | succ n ih =>
    intro h m hm
    obtain ⟨m, rfl⟩ : ∃ k, m = k + 1 := ⟨m - 1, by omega⟩
    simp only [loopN] at h ⊢
    cases hb : b σ with
    | none => simp [hb] at h
    | some q =>
      obtain ⟨e, σ'⟩ := q
      cases e <;> simp only [hb] at h ⊢
      · exact ih h m (by omega)
      · exact h
      · exact h
theorem loopE_eq {b : St → Out} {g : St → St} {σ : St} {n : Nat} {r : Ex × St} (h : loopN b g n σ = some r) : loopE b g σ = some r := by
  have hx : ∃ n r, loopN b g n σ = some r := ⟨n, r, h⟩
  unfold loopE
  rw [dif_pos hx]
  have h1 := Classical.choose_spec (Classical.choose_spec hx)
  have h2 := loopN_mono h1 (max (Classical.choose hx) n) (by omega)
  have h3 := loopN_mono h (max (Classical.choose hx) n) (by omega)
  rw [h2] at h3
  exact h3
theorem loopE_of {b : St → Out} {g : St → St} {σ : St} {r : Ex × St} (h : loopE b g σ = some r) : ∃ n, loopN b g n σ = some r := by
  unfold loopE at h
  split at h
  · rename_i hx
    refine ⟨Classical.choose hx, ?_⟩
    rw [← h]; exact Classical.choose_spec (Classical.choose_spec hx)
  · cases h

/-- Slots and heaps, written out. -/
def SS : List (Nat × AV) → Slots
  | [] => D0
  | (k, v) :: l => U (SS l) k v
def HS : List (Id × Blk) → Heap
  | [] => HE
  | (k, v) :: l => HU (HS l) k v
section
variable {C : Ctx} {an : Ann} {c : Code} {k : Nat}
/-- What a round of a loop must come to. -/
noncomputable def Back (g : St → St) (o : Out) (good : St → Prop) : Out → Prop
  | some (.normal, σ') => good (g σ')
  | r => r = o
theorem Back_normal (g : St → St) (o : Out) (good : St → Prop) (σ' : St) : Back g o good (some (.normal, σ')) = good (g σ') := rfl
theorem Back_exit (g : St → St) (o : Out) (good : St → Prop) (i : Nat) (σ' : St) : Back g o good (some (.exit i, σ')) = (some (Ex.exit i, σ') = o) := rfl
theorem Back_ret (g : St → St) (o : Out) (good : St → Prop) (σ' : St) : Back g o good (some (.ret, σ')) = (some (Ex.ret, σ') = o) := rfl
/-- A loop by induction: 'x' tells where it stands. -/
theorem lp_by {α : Type} (I : α → Prop) (σ : α → St) (o : α → Ex × St) (μ : α → Nat)
    (step : ∀ x, I x → Back (keepSt an k) (some (o x)) (fun τ => ∃ y, I y ∧ μ y < μ x ∧ τ = σ y ∧ o y = o x) (run C an [.code c k] (σ x))) :
    ∀ x, I x → lp C an c k (σ x) = some (o x) := by
  have key : ∀ n x, μ x ≤ n → I x → ∃ m, loopN (ex C an c k) (keepSt an k) m (σ x) = some (o x) := by
    intro n
    induction n with
    | zero =>
      intro x hx hI
      have h := step x hI
      cases hr : run C an [.code c k] (σ x) with
      | none => rw [hr] at h; cases h
      | some q =>
        obtain ⟨e, σ'⟩ := q
        have he : ex C an c k (σ x) = some (e, σ') := by
          simp only [run] at hr
          cases hx : ex C an c k (σ x) with
          | none => simp [hx] at hr
          | some q => obtain ⟨e', τ⟩ := q; cases e' <;> simp [hx, unw] at hr <;> simp [hr]
        rw [hr] at h
        cases e with
        | normal => obtain ⟨y, _, hy, _⟩ := h; omega
        | exit i => exact ⟨1, by simp only [loopN, he]; exact h⟩
        | ret => exact ⟨1, by simp only [loopN, he]; exact h⟩
    | succ n ih =>
      intro x hx hI
      have h := step x hI
      cases hr : run C an [.code c k] (σ x) with
      | none => rw [hr] at h; cases h
      | some q =>
        obtain ⟨e, σ'⟩ := q
        have he : ex C an c k (σ x) = some (e, σ') := by
          simp only [run] at hr
          cases hx : ex C an c k (σ x) with
          | none => simp [hx] at hr
          | some q => obtain ⟨e', τ⟩ := q; cases e' <;> simp [hx, unw] at hr <;> simp [hr]
        rw [hr] at h
        cases e with
        | normal =>
          obtain ⟨y, hIy, hy, hτ, ho⟩ := h
          obtain ⟨m, hm⟩ := ih y (by omega) hIy
          exact ⟨m + 1, by simp only [loopN, he]; rw [hτ, hm, ho]⟩
        | exit i => exact ⟨1, by simp only [loopN, he]; exact h⟩
        | ret => exact ⟨1, by simp only [loopN, he]; exact h⟩
  intro x hI
  obtain ⟨m, hm⟩ := key (μ x) x (Nat.le_refl _) hI
  exact loopE_eq hm
/-- A loop in the midst of a function, by induction. -/
theorem loop_at {σ0 : St} {l : List It} {α : Type} (G : Out → Prop) (I : α → Prop) (σ : α → St) (o : α → Ex × St) (μ : α → Nat) (x0 : α) (h0 : I x0) (hσ : σ0 = σ x0)
    (step : ∀ x, I x → Back (keepSt an k) (some (o x)) (fun τ => ∃ y, I y ∧ μ y < μ x ∧ τ = σ y ∧ o y = o x) (run C an [.code c k] (σ x)))
    (g : G (after C an (some (o x0)) l)) : G (after C an (lp C an c k σ0) l) := by rw [hσ, lp_by I σ o μ step x0 h0]; exact g
end
attribute [go_sem] SS HS Back_normal Back_exit Back_ret
end Go.Proofs.YtndgpinhbffleaaGreat


namespace Go.Proofs.YtndgpinhbffleaaGreat
open Go

def Leq (O O' : Oracle) : Prop := ∀ g avs K s, O g avs K = some s → O' g avs K = some s
section
variable {P : Program} {O O' : Oracle} {A : FuncId → Ann} {an : Ann}
theorem acall_mono (hO : Leq O O') {d : Nat} {f : AV} {args : List AV} {h : Heap} {e : Eff} (he : acall P O A an d f args h = some e) : acall P O' A an d f args h = some e := by
  unfold acall at he ⊢
  split at he
  · dsimp only at he ⊢
    split at he
    · split at he
      · rename_i hc
        rw [if_pos hc]
        split at he
        · rename_i r hr
          simp only [hO _ _ _ _ hr]
          exact he
        · cases he
      · cases he
    · cases he
  · cases he
theorem aop_mono (hO : Leq O O') {o : Oper} {ρ : Operand → AV} {h : Heap} {e : Eff} (he : aop P O A an o ρ h = some e) : aop P O' A an o ρ h = some e := by
  cases ho : o.op with
  | call c =>
    obtain ⟨cal, avs, ats⟩ := c
    cases cal with
    | value f => simp only [aop, ho] at he ⊢; exact acall_mono hO he
    | builtin b => cases b <;> (simp only [aop, ho] at he ⊢; exact he)
    | invoke r n => simp only [aop, ho] at he; cases he
  | makeFunc fn _ _ => cases fn <;> (simp only [aop, ho] at he ⊢; exact he)
  | typeAssert _ _ _ ok => cases ok <;> (simp only [aop, ho] at he ⊢; exact he)
  | _ => simp only [aop, ho] at he ⊢; exact he
theorem doOp_mono (hO : Leq O O') {o : Oper} {σ σ' : St} (he : doOp P O A an o σ = some σ') : doOp P O' A an o σ = some σ' := by
  unfold doOp at he ⊢
  split at he
  · rename_i e h1; rw [aop_mono hO h1]; exact he
  · cases he
theorem doOpH_mono (hO : Leq O O') {H W V K : List Id} {o : Oper} {σ σ' : St} (he : doOpH P O A an H W V K o σ = some σ') : doOpH P O' A an H W V K o σ = some σ' := by
  unfold doOpH at he ⊢
  split at he
  · rename_i e h1; rw [aop_mono hO h1]; exact he
  · cases he
theorem guarded_mono {all : List Oper} {o : Oper} {σ σ' : St} {k k' : Option St} (hk : ∀ τ, k = some τ → k' = some τ) (he : guarded all o σ k = some σ') : guarded all o σ k' = some σ' := by
  unfold guarded at he ⊢
  split at he
  · exact hk _ he
  · split at he
    · split at he
      · split at he
        · rename_i h; rw [if_pos h]; exact hk _ he
        · rename_i h; rw [if_neg h]; exact he
      · exact he
      · cases he
    · cases he
theorem rops_mono (hO : Leq O O') (all : List Oper) : ∀ (os : List Oper) (σ σ' : St), rops P O A an all os σ = some σ' → rops P O' A an all os σ = some σ' := by
  intro os
  induction os with
  | nil => intro σ σ' h; exact h
  | cons o os ih =>
    intro σ σ' h
    unfold rops at h ⊢
    split at h
    · rename_i τ h1
      rw [guarded_mono (fun _ => doOp_mono hO) h1]; exact ih _ _ h
    · cases h
theorem ropsH_mono (hO : Leq O O') (all : List Oper) (r : Nat) : ∀ (os : List Oper) (i : Nat) (σ σ' : St), ropsH P O A an all r i os σ = some σ' → ropsH P O' A an all r i os σ = some σ' := by
  intro os
  induction os with
  | nil => intro i σ σ' h; exact h
  | cons o os ih =>
    intro i σ σ' h
    unfold ropsH stepH at h ⊢
    split at h
    · rename_i τ h1
      rw [guarded_mono (fun _ => doOpH_mono hO) h1]; exact ih _ _ _ h
    · cases h
theorem loopN_le {b b' : St → Out} (h : ∀ σ r, b σ = some r → b' σ = some r) (g : St → St) : ∀ (n : Nat) (σ : St) (r : Ex × St), loopN b g n σ = some r → loopN b' g n σ = some r := by
  intro n
  induction n with
  | zero => intro σ r e; simp [loopN] at e
  | succ n ih =>
    intro σ r e
    simp only [loopN] at e ⊢
    cases hb : b σ with
    | none => simp [hb] at e
    | some q =>
      obtain ⟨x, τ⟩ := q
      rw [h _ _ hb]
      cases x <;> simp only [hb] at e ⊢
      · exact ih _ _ e
      · exact e
      · exact e
theorem exec_mono (hO : Leq O O') : ∀ (c : Code) (k : Nat) (σ : St) (r : Ex × St), exec P O A an c k σ = some r → exec P O' A an c k σ = some r := by
  intro c
  induction c with
  | region id os draw =>
    intro k σ r h
    simp only [exec, region] at h ⊢
    split at h
    · rename_i τ h1
      have : (if draw = true then ropsH P O' A an os.toList id 0 os.toList ⟨restr an.vars σ.slot, σ.heap⟩ else rops P O' A an os.toList os.toList ⟨restr an.vars σ.slot, σ.heap⟩) = some τ := by
        split at h1
        · rename_i hd; rw [if_pos hd]; exact ropsH_mono hO _ _ _ _ _ _ h1
        · rename_i hd; rw [if_neg hd]; exact rops_mono hO _ _ _ _ h1
      rw [this]; exact h
    · cases h
  | seq a b iha ihb =>
    intro k σ r h
    simp only [exec] at h ⊢
    cases hx : exec P O A an a k σ with
    | none => simp [hx] at h
    | some q =>
      obtain ⟨x, τ⟩ := q
      rw [iha _ _ _ hx]
      cases x <;> simp only [hx] at h ⊢
      · exact ihb _ _ _ h
      · exact h
      · exact h
  | cond c a b iha ihb =>
    intro k σ r h
    simp only [exec] at h ⊢
    split at h
    · split at h
      · rename_i ht; rw [if_pos ht]; exact iha _ _ _ h
      · rename_i ht; rw [if_neg ht]; exact ihb _ _ _ h
    · cases h
  | block id c ih =>
    intro k σ r h
    simp only [exec] at h ⊢
    cases hx : exec P O A an c id σ with
    | none => simp [hx] at h
    | some q =>
      rw [ih _ _ _ hx]; rw [hx] at h; exact h
  | loop c ih =>
    intro k σ r h
    simp only [exec] at h ⊢
    obtain ⟨n, hn⟩ := loopE_of h
    exact loopE_eq (loopN_le (fun σ r => ih k σ r) _ n _ _ hn)
  | _ => intro k σ r h; simp only [exec] at h ⊢; exact h
end
theorem execFn_mono {C : Ctx} {O O' : Oracle} (hO : Leq O O') {f : FuncId} {args : List AV} {H : List (Id × Blk)} {r : Res} (h : execFn C O f args H = some r) : execFn C O' f args H = some r := by
  unfold execFn at h ⊢
  split at h
  · cases h
  · rename_i h0
    rw [if_neg h0]
    split at h
    · rename_i fn hf
      split at h
      · rename_i c hb
        split at h
        · cases h
        · rename_i hc
          rw [if_neg hc]
          cases hx : exec C.P O C.A (C.A f) c 0 ⟨slotsOf 0 args, heapOf H⟩ with
          | none => simp [hx] at h
          | some q => rw [exec_mono hO _ _ _ _ hx]; rw [hx] at h; exact h
      · cases h
    · cases h
theorem execFn_noExt {C : Ctx} {O : Oracle} {f : FuncId} {args : List AV} {H : List (Id × Blk)} {r : Res} (h : execFn C O f args H = some r) : (C.A f).ext = true → C.X f args H = none := by
  unfold execFn at h
  split at h
  · cases h
  · rename_i h0
    simp only [Bool.or_eq_true, not_or, Bool.not_eq_true] at h0
    intro hx
    have := h0.1
    simpa [hx] using this
/-- One answer alone. -/
theorem Run.one {C : Ctx} {f : FuncId} {args : List AV} {H : List (Id × Blk)} {r : Res} (h : Run C f args H r) : ∀ {r'}, Run C f args H r' → r = r' := by
  induction h with
  | ext hx e =>
    intro r' h'
    cases h' with
    | ext hx' e' => rw [e] at e'; injection e'
    | body O' hO' e' => rw [execFn_noExt e' hx] at e; cases e
  | body O hO e ih =>
    intro r' h'
    cases h' with
    | ext hx' e' => rw [execFn_noExt e hx'] at e'; cases e'
    | body O' hO' e' =>
      have h1 : Leq O (fun g avs K => match O g avs K with | some s => some s | none => O' g avs K) := by
        intro g avs K s h; show (match O g avs K with | some s => some s | none => O' g avs K) = some s; rw [h]
      have h2 : Leq O' (fun g avs K => match O g avs K with | some s => some s | none => O' g avs K) := by
        intro g avs K s h
        show (match O g avs K with | some s => some s | none => O' g avs K) = some s
        cases ho : O g avs K with
        | none => exact h
        | some s' => exact congrArg some (ih g avs K s' ho (hO' g avs K s h))
      have h3 := execFn_mono h1 e
      have h4 := execFn_mono h2 e'
      rw [h3] at h4; injection h4
theorem E_run {C : Ctx} {f : FuncId} {args : List AV} {H : List (Id × Blk)} {r : Res} (h : Run C f args H r) : E C f args H = some r := by
  have hx : ∃ r, Run C f args H r := ⟨r, h⟩
  unfold E
  rw [dif_pos hx, (Classical.choose_spec hx).one h]
theorem run_E {C : Ctx} {f : FuncId} {args : List AV} {H : List (Id × Blk)} {r : Res} (h : E C f args H = some r) : Run C f args H r := by
  unfold E at h
  split at h
  · rename_i hx; injection h with h; rw [← h]; exact Classical.choose_spec hx
  · cases h
theorem E_of {C : Ctx} {f : FuncId} {args : List AV} {H : List (Id × Blk)} {r : Res} (h : execFn C (E C) f args H = some r) : E C f args H = some r := E_run (.body (E C) (fun _ _ _ _ => run_E) h)
theorem E_ext {C : Ctx} {f : FuncId} {args : List AV} {H : List (Id × Blk)} {r : Res} (hx : (C.A f).ext = true) (h : C.X f args H = some r) : E C f args H = some r := E_run (.ext hx h)
/-- What a function answers, read off its code. -/
noncomputable def fin (C : Ctx) (fn : Func) (H : List (Id × Blk)) (o : Out) : Option Res := match o with
  | some (.normal, σ) => answer C.P fn H σ
  | some (.ret, σ) => answer C.P fn H σ
  | _ => none
theorem fin_ret (C : Ctx) (fn : Func) (H : List (Id × Blk)) (σ : St) : fin C fn H (some (.ret, σ)) = answer C.P fn H σ := rfl
theorem fin_normal (C : Ctx) (fn : Func) (H : List (Id × Blk)) (σ : St) : fin C fn H (some (.normal, σ)) = answer C.P fn H σ := rfl
theorem fin_none (C : Ctx) (fn : Func) (H : List (Id × Blk)) : fin C fn H none = none := rfl
theorem run_one (C : Ctx) (an : Ann) (c : Code) (k : Nat) (σ : St) : run C an [.code c k] σ = exec C.P (E C) C.A an c k σ := by
  unfold run
  show (match exec C.P (E C) C.A an c k σ with
    | some (.normal, σ') => run C an [] σ'
    | some (e, σ') => unw C an e [] σ'
    | none => none) = _
  cases exec C.P (E C) C.A an c k σ with
  | none => rfl
  | some q =>
    obtain ⟨x, τ⟩ := q
    cases x <;> simp [run_nil, unw_nil]
theorem E_fin {C : Ctx} {f : FuncId} {args : List AV} {H : List (Id × Blk)} {r : Res} (fn : Func) (c : Code) (an : Ann) (ha : C.A f = an) (hx : (an.ext && (C.X f args H).isSome) = false) (hn : an.np = args.length) (hf : C.P.funcs[f]? = some fn) (hb : fn.body = some c) (hc : codeOK an fn c = true)
    (he : fin C fn H (run C an [.code c 0] ⟨slotsOf 0 args, heapOf H⟩) = some r) : E C f args H = some r := by
  refine E_of ?_
  unfold execFn
  subst ha
  rw [if_neg (by simp [hx, hn])]
  simp only [hf, hb, hc]
  rw [run_one] at he
  simp only [Bool.not_true, Bool.false_eq_true, if_false]
  cases hx : exec C.P (E C) C.A (C.A f) c 0 ⟨slotsOf 0 args, heapOf H⟩ with
  | none => rw [hx] at he; cases he
  | some q =>
    obtain ⟨x, σ⟩ := q
    rw [hx] at he
    cases x <;> first | exact he | cases he
attribute [go_sem] fin_ret fin_normal fin_none
end Go.Proofs.YtndgpinhbffleaaGreat


namespace Go.Proofs.YtndgpinhbffleaaGreat
open Go Go.RowKit

/-- Where the named blocks lie: number, cells an element; 'n': the blocks that a named row's elements own. -/
structure Map where
  f : Id → Option (Nat × Nat)
  n : Id → Nat → Prop
instance : CoeFun Map fun _ => Id → Option (Nat × Nat) := ⟨Map.f⟩
/-- All that a name stands for. -/
def Foot (ι : Map) (id : Id) (k : Nat) : Prop := (∃ s, ι id = some (k, s)) ∨ ι.n id k
def Own (ι : Map) : Nat → Prop := fun b => ∃ id, Foot ι id b
def noMap : Map := ⟨fun _ => none, fun _ _ => False⟩
theorem Map.ext' {ι ι' : Map} (hf : ∀ i, ι i = ι' i) (hn : ∀ i k, ι.n i k ↔ ι'.n i k) : ι = ι' := by
  obtain ⟨f, n⟩ := ι
  obtain ⟨f', n'⟩ := ι'
  obtain rfl : f = f' := funext hf
  obtain rfl : n = n' := funext fun i => funext fun k => propext (hn i k)
  rfl
theorem Foot.name {ι : Map} {id : Id} {k s : Nat} (h : ι id = some (k, s)) : Foot ι id k := .inl ⟨s, h⟩
theorem Own.name {ι : Map} {id : Id} {k s : Nat} (h : ι id = some (k, s)) : Own ι k := ⟨id, .name h⟩

inductive Rep (w : World) (O : Nat → Prop) : Map → AV → Value → Prop
  | dead {ι : Map} (v : Value) : Rep w O ι .dead v
  | int {ι : Map} (k : IntKind) (n : Int) : Rep w O ι (.int k n) (.int k n)
  | bool {ι : Map} (b : Bool) : Rep w O ι (.bool b) (.bool b)
  | str {ι : Map} {l : List UInt8} {s : ByteArray} (h : s.data.toList = l) : Rep w O ι (.str l) (.string s)
  | agg {ι : Map} {cs : List AV} {vs : Array Value} (hl : cs.length = vs.size) (h : ∀ i, i < cs.length → Rep w O ι (cs.getD i .dead) (vs.getD i undef)) : Rep w O ι (.agg cs) (.agg vs)
  | nil {ι : Map} (a : Option Addr) : Rep w O ι .nil (.slice a 0 0)
  | slE {ι : Map} (m : Nat) (a : Option Addr) (cap : Nat) : Rep w O ι (.sl m []) (.slice a 0 cap)
  | sl {ι : Map} {m : Nat} {es : List AV} {b off cap : Nat} {len : Nat} (cell : Nat → Nat → Value) (hn : es ≠ []) (hlen : len = es.length) (hcap : len ≤ cap) (hO : ¬ O b) (hb : b < w.heap.size) (hm : 0 < m)
      (hc : ∀ i, i < es.length → (cellsOf (es.getD i .dead)).length = m)
      (hcell : ∀ i j, i < es.length → j < m → w.cell? ⟨b, off + i * m + j, none⟩ = some (cell i j))
      (h1 : ∀ i j, i < es.length → j < m → (cell i j).oneCell' = true)
      (h : ∀ i j, i < es.length → j < m → Rep w O noMap ((cellsOf (es.getD i .dead)).getD j .dead) (cell i j)) : Rep w O ι (.sl m es) (.slice (some ⟨b, off, none⟩) len cap)
  | ref {ι : Map} {id : Id} {off len cap b sz n : Nat} {ty : TypeId} (hι : ι id = some (b, sz)) (hs : w.shape? b = some (ty, n)) (hcap : len ≤ cap) (hn : (off + cap) * sz ≤ n) : Rep w O ι (.ref id off len) (.slice (some ⟨b, off * sz, none⟩) len cap)
  | refE {ι : Map} (id : Id) (off : Nat) (a : Option Addr) : Rep w O ι (.ref id off 0) (.slice a 0 0)
  | ptr {ι : Map} {id : Id} {idx off b sz : Nat} (hι : ι id = some (b, sz)) : Rep w O ι (.ptr id idx off) (.pointer (some ⟨b, idx * sz + off, none⟩))
  | rptr {ι : Map} {cs : List AV} {b off : Nat} (cell : Nat → Value) (hO : ¬ O b) (hb : b < w.heap.size)
      (hcell : ∀ j, j < cs.length → w.cell? ⟨b, off + j, none⟩ = some (cell j))
      (h1 : ∀ j, j < cs.length → (cell j).oneCell' = true)
      (h : ∀ j, j < cs.length → Rep w O noMap (cs.getD j .dead) (cell j)) : Rep w O ι (.rptr cs) (.pointer (some ⟨b, off, none⟩))
  | fn {ι : Map} {f : FuncId} {cs : List AV} {vs : Array Value} (hl : cs.length = vs.size) (h : ∀ i, i < cs.length → Rep w O ι (cs.getD i .dead) (vs.getD i undef)) : Rep w O ι (.fn f cs) (.func (.func f) #[] vs)
  | nilfn {ι : Map} : Rep w O ι .nilfn .nilFunc
  | iface {ι : Map} {t : TypeId} {v : AV} {x : Value} (h : Rep w O ι v x) : Rep w O ι (.iface t v) (.iface t x)
  | niliface {ι : Map} : Rep w O ι .niliface .nilIface
  | tuple {ι : Map} {cs : List AV} {vs : Array Value} (hl : cs.length = vs.size) (h : ∀ i, i < cs.length → Rep w O ι (cs.getD i .dead) (vs.getD i undef)) : Rep w O ι (.tuple cs) (.tuple vs)
  | nilptr {ι : Map} : Rep w O ι .nilptr (.pointer none)

/-- The world has gone on: outside of 'O' no block has turned, and no block's shape has. -/
structure Ext (O : Nat → Prop) (w w' : World) : Prop where
  os : w'.os = w.os
  tape : w'.tape = w.tape
  output : w'.output = w.output
  size : w.heap.size ≤ w'.heap.size
  block : ∀ k, k < w.heap.size → ¬ O k → w'.heap[k]? = w.heap[k]?
  shape : ∀ k, k < w.heap.size → w'.shape? k = w.shape? k

theorem Ext.refl (O : Nat → Prop) (w : World) : Ext O w w := ⟨rfl, rfl, rfl, Nat.le_refl _, fun _ _ _ => rfl, fun _ _ => rfl⟩
theorem Ext.mono {O O' : Nat → Prop} {w w' : World} (h : Ext O w w') (hO : ∀ b, b < w.heap.size → O b → O' b) : Ext O' w w' :=
  ⟨h.os, h.tape, h.output, h.size, fun k hk ho => h.block k hk fun x => ho (hO k hk x), h.shape⟩
theorem Ext.trans {O : Nat → Prop} {w w' w'' : World} (h : Ext O w w') (k : Ext O w' w'') : Ext O w w'' :=
  ⟨k.os.trans h.os, k.tape.trans h.tape, k.output.trans h.output, Nat.le_trans h.size k.size,
   fun i hi ho => (k.block i (Nat.lt_of_lt_of_le hi h.size) ho).trans (h.block i hi ho), fun i hi => (k.shape i (Nat.lt_of_lt_of_le hi h.size)).trans (h.shape i hi)⟩

/-- What is said goes on to be true. -/
theorem Rep.mono {w w' : World} {O O' : Nat → Prop} {ι : Map} {v : AV} {x : Value} (h : Rep w O ι v x) (hx : Ext O w w') (hO : ∀ b, b < w.heap.size → O' b → O b) :
    ∀ ι' : Map, (∀ id p, ι id = some p → ι' id = some p) → Rep w' O' ι' v x := by
  induction h with
  | dead v => intro _ _; exact .dead v
  | int k n => intro _ _; exact .int k n
  | bool b => intro _ _; exact .bool b
  | str h => intro _ _; exact .str h
  | agg hl _ ih => intro ι' hι; exact .agg hl fun i hi => ih i hi ι' hι
  | nil a => intro _ _; exact .nil a
  | slE m a cap => intro _ _; exact .slE m a cap
  | sl cell hn hlen hcap hob hb hm hc hcell h1 _ ih =>
    intro _ _
    exact .sl cell hn hlen hcap (fun h => hob (hO _ hb h)) (Nat.lt_of_lt_of_le hb hx.size) hm hc (fun i j hi hj => (World.cell?_of_block (hx.block _ hb hob)).trans (hcell i j hi hj)) h1
      fun i j hi hj => ih i j hi hj noMap fun _ _ h => h
  | ref hι hs hcap hn =>
    intro ι' hm
    refine .ref (hm _ _ hι) ((hx.shape _ ?_).trans hs) hcap hn
    unfold World.shape? at hs
    split at hs
    · rename_i h; exact (Array.getElem?_eq_some_iff.1 h).1
    · cases hs
  | refE id off a => intro _ _; exact .refE id off a
  | ptr hι => intro ι' hm; exact .ptr (hm _ _ hι)
  | rptr cell hob hb hcell h1 _ ih =>
    intro _ _
    exact .rptr cell (fun h => hob (hO _ hb h)) (Nat.lt_of_lt_of_le hb hx.size) (fun j hj => (World.cell?_of_block (hx.block _ hb hob)).trans (hcell j hj)) h1 fun j hj => ih j hj noMap fun _ _ h => h
  | fn hl _ ih => intro ι' hι; exact .fn hl fun i hi => ih i hi ι' hι
  | nilfn => intro _ _; exact .nilfn
  | iface _ ih => intro ι' hι; exact .iface (ih ι' hι)
  | niliface => intro _ _; exact .niliface
  | tuple hl _ ih => intro ι' hι; exact .tuple hl fun i hi => ih i hi ι' hι
  | nilptr => intro _ _; exact .nilptr

theorem killL_length (K : Id → Bool) : ∀ l : List AV, (AV.killL K l).length = l.length
  | [] => rfl
  | c :: cs => by simp [AV.killL, killL_length K cs]
theorem killL_getD (K : Id → Bool) : ∀ (l : List AV) (i : Nat), (AV.killL K l).getD i .dead = (l.getD i .dead).kill K
  | [], i => by simp [AV.killL, AV.kill]
  | c :: cs, 0 => by simp [AV.killL]
  | c :: cs, i + 1 => by
    have := killL_getD K cs i
    simpa [AV.killL] using this
/-- What is given up is known no more; the rest is. -/
theorem Rep.killed {w : World} {O : Nat → Prop} {ι ι' : Map} {v : AV} {x : Value} (K : Id → Bool) (h : Rep w O ι v x) (hι : ∀ id p, K id = false → ι id = some p → ι' id = some p) : Rep w O ι' (v.kill K) x := by
  induction h with
  | dead v => exact .dead v
  | int k n => exact .int k n
  | bool b => exact .bool b
  | str h => exact .str h
  | agg hl _ ih => exact .agg (by rw [killL_length]; exact hl) fun i hi => by rw [killL_getD]; exact ih i (by rwa [killL_length] at hi) hι
  | nil a => exact .nil a
  | slE m a cap => exact .slE m a cap
  | sl cell hn hlen hcap hob hb hm hc hcell h1 h _ => exact .sl cell hn hlen hcap hob hb hm hc hcell h1 h
  | @ref ι id off len cap b sz n ty h hs hcap hn =>
    unfold AV.kill
    cases hK : K id with
    | true => exact .dead _
    | false => exact .ref (hι _ _ hK h) hs hcap hn
  | @refE ι id off a =>
    unfold AV.kill
    cases hK : K id with
    | true => exact .dead _
    | false => exact .refE _ _ _
  | @ptr ι id idx off b sz h =>
    unfold AV.kill
    cases hK : K id with
    | true => exact .dead _
    | false => exact .ptr (hι _ _ hK h)
  | rptr cell hob hb hcell h1 h _ => exact .rptr cell hob hb hcell h1 h
  | fn hl _ ih => exact .fn (by rw [killL_length]; exact hl) fun i hi => by rw [killL_getD]; exact ih i (by rwa [killL_length] at hi) hι
  | nilfn => exact .nilfn
  | iface _ ih => exact .iface (ih hι)
  | niliface => exact .niliface
  | tuple hl _ ih => exact .tuple (by rw [killL_length]; exact hl) fun i hi => by rw [killL_getD]; exact ih i (by rwa [killL_length] at hi) hι
  | nilptr => exact .nilptr
end Go.Proofs.YtndgpinhbffleaaGreat


namespace Go.Proofs.YtndgpinhbffleaaGreat
open Go Go.RowKit

def inMap (v : Bool) (ι : Map) : Map := match v with
  | true => ι
  | false => noMap
/-- The block that a slice lies in. -/
def blkOf : Value → Nat
  | .slice (some a) _ _ => a.block
  | _ => 0
/-- A slice of a row, as memory has it. -/
def NestC (w : World) (t : TypeId) (m : Nat) (v : Value) : Prop := ∃ c len cap cs, v = .slice (some ⟨c, 0, none⟩) len cap ∧ w.heap[c]? = some (.cells cs t (0, 0)) ∧ len ≤ cap ∧ cap * m ≤ cs.size
/-- The cells that show elements of another row. -/
def nestAt (cs : List AV) (j : Nat) : Option Nat := match cs.getD j .dead with
  | .sl m (_ :: _) => some m
  | _ => none
def slAt (sz : Nat) (els : List AV) (i j : Nat) : Option Nat := if i < els.length ∧ j < sz then nestAt (cellsOf (els.getD i .dead)) j else none
/-- The rows that a row shows are its own, each once. -/
def NestF (w : World) (n : Nat → Prop) (t : TypeId) (sz : Nat) (els : List AV) (V : Nat → Value) : Prop :=
  (∀ i j m, slAt sz els i j = some m → n (blkOf (V (i * sz + j))) ∧ NestC w t m (V (i * sz + j))) ∧
  ∀ i j i' j', (slAt sz els i j).isSome = true → (slAt sz els i' j').isSome = true → blkOf (V (i * sz + j)) = blkOf (V (i' * sz + j')) → i = i' ∧ j = j'
def NestOK (w : World) (n : Nat → Prop) (b : Blk) (cs : Array Value) : Prop := b.isVar = false → ∀ t, b.sub = some t → NestF w n t b.sz b.els fun o => cs.getD o undef
/-- What a row's elements may not lie in. -/
def ob (O n : Nat → Prop) (b : Blk) : Nat → Prop := fun k => O k ∧ (b.sub.isSome = true → ¬ n k)
theorem NestF.mono {w w' : World} {n n' : Nat → Prop} {t : TypeId} {sz : Nat} {els : List AV} {V : Nat → Value} (h : NestF w n t sz els V) (hn : ∀ k, n k → n' k) (hb : ∀ k, n k → w'.heap[k]? = w.heap[k]?) : NestF w' n' t sz els V := by
  refine ⟨fun i j m hs => ?_, h.2⟩
  obtain ⟨h1, c, len, cap, cs, h2, h3, h4⟩ := h.1 i j m hs
  refine ⟨hn _ h1, c, len, cap, cs, h2, ?_, h4⟩
  rw [h2] at h1
  rw [hb c h1]; exact h3
theorem NestOK.mono {w w' : World} {n n' : Nat → Prop} {b : Blk} {cs : Array Value} (h : NestOK w n b cs) (hn : ∀ k, n k → n' k) (hb : ∀ k, n k → w'.heap[k]? = w.heap[k]?) : NestOK w' n' b cs := fun hv t ht => (h hv t ht).mono hn hb
theorem NestOK.none {w : World} {n : Nat → Prop} {b : Blk} {cs : Array Value} (h : b.sub = none) : NestOK w n b cs := fun _ t ht => by rw [h] at ht; cases ht
theorem NestOK.var {w : World} {n : Nat → Prop} {b : Blk} {cs : Array Value} (h : b.isVar = true) : NestOK w n b cs := fun hv => by rw [h] at hv; cases hv
theorem NestF.flat {w : World} {n : Nat → Prop} {t : TypeId} {sz : Nat} {els : List AV} {V : Nat → Value} (h : ∀ i j, slAt sz els i j = .none) : NestF w n t sz els V :=
  ⟨fun i j m hs => by simp [h] at hs, fun i j i' j' hs _ _ => by simp [h] at hs⟩
/-- What is said of a named block. -/
def BRep (w : World) (O : Nat → Prop) (ι : Map) (id : Id) (b : Blk) : Prop :=
  (b.els = [] ∧ b.isVar = false ∧ ι id = none) ∨
  ∃ k cs, ι id = some (k, b.sz) ∧ w.heap[k]? = some (.cells cs b.ty (0, 0)) ∧ 0 < b.sz ∧ (b.isVar = true → b.els.length = 1) ∧
    (∀ i, i < b.els.length → (cellsOf (b.els.getD i .dead)).length = b.sz) ∧ b.els.length * b.sz ≤ cs.size ∧ (∀ o, o < b.els.length * b.sz → (cs.getD o undef).oneCell' = true) ∧
    (∀ i j, i < b.els.length → j < b.sz → Rep w (ob O (ι.n id) b) (inMap b.isVar ι) ((cellsOf (b.els.getD i .dead)).getD j .dead) (cs.getD (i * b.sz + j) undef)) ∧ NestOK w (ι.n id) b cs

/-- The same, what it holds told by value. -/
def BRepN (w : World) (O : Nat → Prop) (p : Option (Nat × Nat)) (n : Nat → Prop) (b : Blk) : Prop :=
  (b.els = [] ∧ b.isVar = false ∧ p = none) ∨
  ∃ k cs, p = some (k, b.sz) ∧ w.heap[k]? = some (.cells cs b.ty (0, 0)) ∧ 0 < b.sz ∧ (b.isVar = true → b.els.length = 1) ∧
    (∀ i, i < b.els.length → (cellsOf (b.els.getD i .dead)).length = b.sz) ∧ b.els.length * b.sz ≤ cs.size ∧ (∀ o, o < b.els.length * b.sz → (cs.getD o undef).oneCell' = true) ∧
    (∀ i j, i < b.els.length → j < b.sz → Rep w (ob O n b) noMap ((cellsOf (b.els.getD i .dead)).getD j .dead) (cs.getD (i * b.sz + j) undef)) ∧ NestOK w n b cs
theorem Rep.up {w : World} {O : Nat → Prop} {ι : Map} {v : AV} {x : Value} (h : Rep w O noMap v x) : Rep w O ι v x :=
  h.mono (Ext.refl O w) (fun _ _ h => h) ι fun _ _ h => by cases h
theorem Rep.upIn {w : World} {O : Nat → Prop} {ι : Map} {v : AV} {x : Value} {b : Bool} (h : Rep w O (inMap b ι) v x) : Rep w O ι v x := by
  cases b
  · exact h.up
  · exact h
theorem cell?_of_cells {w : World} {k : Nat} {cs : Array Value} {t : TypeId} {fr : Nat × Nat} (h : w.heap[k]? = some (.cells cs t fr)) {o : Nat} (ho : o < cs.size) : w.cell? ⟨k, o, none⟩ = some (cs.getD o undef) := by
  simp [World.cell?, h, ho]
theorem lt_of_cells {w : World} {k : Nat} {o : Obj} (h : w.heap[k]? = some o) : k < w.heap.size := (Array.getElem?_eq_some_iff.1 h).1

theorem cellsOf_kill (K : Id → Bool) (e : AV) : cellsOf (e.kill K) = AV.killL K (cellsOf e) := by
  cases e with
  | ref id off len => cases h : K id <;> simp [AV.kill, cellsOf, AV.killL, h]
  | ptr id idx off => cases h : K id <;> simp [AV.kill, cellsOf, AV.killL, h]
  | _ => simp [AV.kill, cellsOf, AV.killL]
/-- A block that has not turned. -/
theorem BRep.mono {w w' : World} {O O' : Nat → Prop} {ι ι' : Map} {id : Id} {b : Blk} (h : BRep w O ι id b) (hx : Ext O w w') (hO : ∀ k, k < w.heap.size → O' k → O k)
    (hk : ∀ k, Foot ι id k → w'.heap[k]? = w.heap[k]?) (hid : ι' id = ι id) (hn : ι'.n id = ι.n id) (hι : ∀ i p, ι i = some p → ι' i = some p) : BRep w' O' ι' id b := by
  rcases h with ⟨h1, h2, h3⟩ | ⟨k, cs, h1, h2, h3, h4, h5, h6, h8, h7, h9⟩
  · exact .inl ⟨h1, h2, hid.trans h3⟩
  · refine .inr ⟨k, cs, hid.trans h1, (hk _ (.name h1)).trans h2, h3, h4, h5, h6, h8, fun i j hi hj => (h7 i j hi hj).mono ?_ (fun c hc ho => ?_) _ ?_, ?_⟩
    · refine ⟨hx.os, hx.tape, hx.output, hx.size, fun c hc ho => ?_, hx.shape⟩
      by_cases hoc : O c
      · have : ι.n id c := Classical.byContradiction fun hno => ho ⟨hoc, fun _ => hno⟩
        exact hk c (.inr this)
      · exact hx.block c hc hoc
    · rw [hn] at ho
      exact ⟨hO c hc ho.1, ho.2⟩
    · cases b.isVar
      · exact fun _ _ h => h
      · exact hι
    · rw [hn]; exact h9.mono (fun _ h => h) fun c hc => hk c (.inr hc)
theorem BRep.killed {w : World} {O : Nat → Prop} {ι ι' : Map} {id : Id} {b : Blk} (K : Id → Bool) (h : BRep w O ι id b) (hid : ι' id = ι id) (hn : ι'.n id = ι.n id) (hι : ∀ i p, K i = false → ι i = some p → ι' i = some p) : BRep w O ι' id (b.kill K) := by
  obtain ⟨v, t, n, l, u⟩ := b
  rcases h with ⟨h1, h2, h3⟩ | ⟨k, cs, h1, h2, h3, h4, h5, h6, h8, h7, h9⟩
  · simp only at h1 h2
    subst h1; subst h2
    exact .inl ⟨rfl, rfl, hid.trans h3⟩
  · cases v
    · refine .inr ⟨k, cs, hid.trans h1, h2, h3, h4, h5, h6, h8, ?_, ?_⟩
      · rw [hn]; exact h7
      · rw [hn]; exact h9
    · have hc := cellsOf_kill K
      refine .inr ⟨k, cs, hid.trans h1, h2, h3, fun h => (killL_length K l).trans (h4 h), fun i hi => ?_, (by simpa [Blk.kill, killL_length] using h6), (by simpa [Blk.kill, killL_length] using h8), fun i j hi hj => ?_, .var rfl⟩
      · simp only [Blk.kill, killL_length] at hi
        simp only [Blk.kill]
        rw [killL_getD, hc, killL_length]; exact h5 i hi
      · simp only [Blk.kill, killL_length] at hi
        simp only [Blk.kill]
        rw [killL_getD, hc, killL_getD, hn]
        exact (h7 i j hi hj).killed K hι

theorem packL_length {h : Heap} {n : Nat} : ∀ {l l' : List AV}, AV.packL h n l = some l' → l'.length = l.length
  | [], l', e => by simp [AV.packL] at e; simp [← e]
  | c :: cs, l', e => by
    unfold AV.packL at e
    split at e
    · cases hq : AV.packL h n cs with
      | none => simp [hq] at e
      | some q => simp [hq] at e; rw [← e]; simp [packL_length hq]
    · cases e
section
variable {w : World} {O O' : Nat → Prop} {ι : Map} {h : Heap}
mutual
theorem pack_rep (hh : ∀ id b, h id = some b → BRep w O ι id b ∧ ∀ k, Foot ι id k → ¬ O' k) (hO : ∀ b, O' b → O b) (n : Nat) (O1 : Nat → Prop) (hO1 : ∀ b, O' b → O1 b) (v v' : AV) (x : Value) (e : AV.pack h n v = some v') (r : Rep w O1 ι v x) : Rep w O' noMap v' x := by
  have triv : ∀ {u : AV}, Rep w O1 noMap u x → Rep w O' noMap u x := fun r => r.mono (Ext.refl O1 w) (fun b _ h => hO1 b h) _ fun _ _ h => h
  cases r with
  | agg hl hr =>
    rename_i cs vs
    unfold AV.pack at e
    cases hq : AV.packL h n cs with
    | none => simp [hq] at e
    | some q =>
      simp [hq] at e; subst e
      exact .agg ((packL_length hq).trans hl) fun i hi => packL_rep hh hO n O1 hO1 cs q hq i (by rw [packL_length hq] at hi; exact hi) _ (hr i (by rw [packL_length hq] at hi; exact hi))
  | tuple hl hr =>
    rename_i cs vs
    unfold AV.pack at e
    cases hq : AV.packL h n cs with
    | none => simp [hq] at e
    | some q =>
      simp [hq] at e; subst e
      exact .tuple ((packL_length hq).trans hl) fun i hi => packL_rep hh hO n O1 hO1 cs q hq i (by rw [packL_length hq] at hi; exact hi) _ (hr i (by rw [packL_length hq] at hi; exact hi))
  | fn hl hr =>
    rename_i f cs vs
    unfold AV.pack at e
    cases hq : AV.packL h n cs with
    | none => simp [hq] at e
    | some q =>
      simp [hq] at e; subst e
      exact .fn ((packL_length hq).trans hl) fun i hi => packL_rep hh hO n O1 hO1 cs q hq i (by rw [packL_length hq] at hi; exact hi) _ (hr i (by rw [packL_length hq] at hi; exact hi))
  | iface hr =>
    rename_i t v y
    unfold AV.pack at e
    cases hq : AV.pack h n v with
    | none => simp [hq] at e
    | some q =>
      simp [hq] at e; subst e
      exact .iface (pack_rep hh hO n O1 hO1 v q y hq hr)
  | ref hι hs hcap hn =>
    rename_i id off len cap k sz m ty
    unfold AV.pack at e
    cases hb : h id with
    | none => simp [hb] at e
    | some b =>
      simp only [hb] at e
      split at e
      · rename_i hc
        injection e with e; subst e
        obtain ⟨hB, hK⟩ := hh id b hb
        rcases hB with ⟨_, _, h3⟩ | ⟨k', cs, h1, h2, h3, h4, h5, h6, h8, h7, _⟩
        · rw [h3] at hι; cases hι
        · rw [hι] at h1; injection h1 with h1; injection h1 with e1 e2; subst e1; subst e2
          by_cases hl : len = 0
          · subst hl; simp; exact .slE _ _ _
          · have hlen : ((b.els.drop off).take len).length = len := by simp; omega
            have hget : ∀ i, i < len → ((b.els.drop off).take len).getD i .dead = b.els.getD (off + i) .dead := by
              intro i hi; simp [hi]
            have hmul : ∀ i j, i < len → j < b.sz → off * b.sz + i * b.sz + j < cs.size := by
              intro i j hi hj
              have : (off + i + 1) * b.sz ≤ b.els.length * b.sz := Nat.mul_le_mul_right _ (by omega)
              simp only [Nat.add_mul, Nat.one_mul] at this
              omega
            refine .sl (fun i j => cs.getD (off * b.sz + i * b.sz + j) undef) (fun h => hl (by rw [h] at hlen; simpa using hlen.symm)) hlen.symm hcap (hK _ (.name hι)) (lt_of_cells h2) h3 (fun i hi => ?_) (fun i j hi hj => ?_) (fun i j hi hj => ?_) (fun i j hi hj => ?_)
            · rw [hlen] at hi; rw [hget i hi]; exact h5 _ (by omega)
            · rw [hlen] at hi; exact cell?_of_cells h2 (hmul i j hi hj)
            · rw [hlen] at hi
              refine h8 _ ?_
              have : (off + i + 1) * b.sz ≤ b.els.length * b.sz := Nat.mul_le_mul_right _ (by omega)
              simp only [Nat.add_mul, Nat.one_mul] at this
              omega
            · rw [hlen] at hi; rw [hget i hi]
              have := h7 (off + i) j (by omega) hj
              rw [hc.1, Nat.add_mul] at this
              exact this.mono (Ext.refl _ w) (fun c _ h => ⟨hO c h, fun _ hn => hK c (.inr hn) h⟩) _ fun _ _ h => h
      · cases e
  | refE id off a =>
    unfold AV.pack at e
    cases hb : h id with
    | none => simp [hb] at e
    | some b =>
      simp only [hb] at e
      split at e
      · injection e with e; subst e; simp; exact .slE _ _ _
      · cases e
  | ptr hι =>
    rename_i id idx off k sz
    unfold AV.pack at e
    cases n with
    | zero => simp at e
    | succ n =>
      cases hb : h id with
      | none => simp [hb] at e
      | some b =>
        simp only [hb] at e
        split at e
        · rename_i hlt
          obtain ⟨hB, hK⟩ := hh id b hb
          rcases hB with ⟨h1, _, _⟩ | ⟨k', cs, h1, h2, h3, h4, h5, h6, h8, h7, _⟩
          · rw [h1] at hlt; simp at hlt
          · rw [hι] at h1; injection h1 with h1; injection h1 with e1 e2; subst e1; subst e2
            cases hq : AV.packL h n ((cellsOf (b.els.getD idx .dead)).drop off) with
            | none => simp only [hq] at e; cases e
            | some q =>
              simp only [hq] at e; injection e with e; subst e
              have hql := packL_length hq
              rw [List.length_drop, h5 idx hlt] at hql
              have hsz : idx * b.sz + b.sz ≤ cs.size := by
                have : (idx + 1) * b.sz ≤ b.els.length * b.sz := Nat.mul_le_mul_right _ (by omega)
                rw [Nat.add_mul, Nat.one_mul] at this; omega
              refine .rptr (fun j => cs.getD (idx * b.sz + off + j) undef) (hK _ (.name hι)) (lt_of_cells h2) (fun j hj => cell?_of_cells h2 (by omega)) (fun j hj => h8 _ (by have := Nat.mul_le_mul_right b.sz (Nat.succ_le_of_lt hlt); rw [Nat.succ_mul] at this; omega)) fun j hj => ?_
              refine packL_rep hh hO n (ob O (ι.n id) b) (fun c h => ⟨hO c h, fun _ hn => hK c (.inr hn) h⟩) _ q hq j (by rw [List.length_drop, h5 idx hlt]; omega) _ ?_
              have := (h7 idx (off + j) hlt (by omega)).upIn
              rw [Nat.add_assoc]
              simpa [List.getElem?_drop] using this
        · cases e
  | dead v => unfold AV.pack at e; injection e with e; subst e; exact .dead _
  | int k m => unfold AV.pack at e; injection e with e; subst e; exact .int _ _
  | bool b => unfold AV.pack at e; injection e with e; subst e; exact .bool _
  | str hs => unfold AV.pack at e; injection e with e; subst e; exact .str hs
  | nil a => unfold AV.pack at e; injection e with e; subst e; exact .nil _
  | slE m a cap => unfold AV.pack at e; injection e with e; subst e; exact .slE _ _ _
  | sl cell hn hlen hcap hob hb hm hc hcell h1 hr =>
    unfold AV.pack at e; injection e with e; subst e
    exact triv (.sl cell hn hlen hcap hob hb hm hc hcell h1 hr)
  | rptr cell hob hb hcell h1 hr =>
    unfold AV.pack at e; injection e with e; subst e
    exact triv (.rptr cell hob hb hcell h1 hr)
  | nilfn => unfold AV.pack at e; injection e with e; subst e; exact .nilfn
  | niliface => unfold AV.pack at e; injection e with e; subst e; exact .niliface
  | nilptr => unfold AV.pack at e; injection e with e; subst e; exact .nilptr
  termination_by (n, SizeOf.sizeOf v)
theorem packL_rep (hh : ∀ id b, h id = some b → BRep w O ι id b ∧ ∀ k, Foot ι id k → ¬ O' k) (hO : ∀ b, O' b → O b) (n : Nat) (O1 : Nat → Prop) (hO1 : ∀ b, O' b → O1 b) (l l' : List AV) (e : AV.packL h n l = some l') (i : Nat) (hi : i < l.length) (x : Value) (r : Rep w O1 ι (l.getD i .dead) x) : Rep w O' noMap (l'.getD i .dead) x := by
  cases l with
  | nil => simp at hi
  | cons c cs =>
    unfold AV.packL at e
    cases hp : AV.pack h n c with
    | none => simp [hp] at e
    | some c' =>
      cases hq : AV.packL h n cs with
      | none => simp [hp, hq] at e
      | some q =>
        simp [hp, hq] at e; subst e
        cases i with
        | zero => exact pack_rep hh hO n O1 hO1 c c' x hp (by simpa using r)
        | succ i => simpa using packL_rep hh hO n O1 hO1 cs q hq i (by simpa using hi) x (by simpa using r)
  termination_by (n, SizeOf.sizeOf l)
end
end
end Go.Proofs.YtndgpinhbffleaaGreat


namespace Go.Proofs.YtndgpinhbffleaaGreat
open Go Go.RowKit

structure Inv (w : World) (h : Heap) (ι : Map) : Prop where
  blk : ∀ id b, h id = some b → BRep w (Own ι) ι id b
  inj : ∀ id id' k, Foot ι id k → Foot ι id' k → id = id'
  sep : ∀ id k s, ι id = some (k, s) → ¬ ι.n id k
  live : ∀ id k, Foot ι id k → k < w.heap.size
  real : ∀ id b, h id = some b → ph id = false
theorem Inv.inj' {w : World} {h : Heap} {ι : Map} (I : Inv w h ι) {id id' : Id} {k s s' : Nat} (h1 : ι id = some (k, s)) (h2 : ι id' = some (k, s')) : id = id' := I.inj _ _ _ (.name h1) (.name h2)
theorem Inv.live' {w : World} {h : Heap} {ι : Map} (I : Inv w h ι) {id : Id} {k s : Nat} (h1 : ι id = some (k, s)) : k < w.heap.size := I.live _ _ (.name h1)

/-- The slots, the named blocks; 'np', 'ι0': what is lent lies where it lay. -/
structure Rel (np nt : Nat) (ι0 : Map) (w : World) (σ : St) (ι : Map) (a : Act) : Prop where
  size : nt ≤ a.tmps.size
  inv : Inv w σ.heap ι
  slots : ∀ s, Rep w (Own ι) ι (σ.slot s) (a.tmps.getD s undef)
  dom : ∀ id k, Foot ι id k → ph id = true ∨ (σ.heap id).isSome = true
  phs : ∀ id, ph id = true → ι id = ι0 id ∧ ι.n id = ι0.n id
  lent : ∀ id, id.headD 0 < np → (σ.heap id).isSome = true → ι id = ι0 id ∧ ι.n id = ι0.n id
  defers : a.defers = []

def keys (l : List (Id × Blk)) : List Id := l.map (·.1)

/-- An effect, done. -/
structure Done (np : Nat) (h : Heap) (w : World) (ι : Map) (e : Eff) (v : Value) (w' : World) (ι' : Map) : Prop where
  ext : Ext (fun k => ∃ id, id ∈ keys e.ups ∧ Foot ι id k) w w'
  val : Rep w' (Own ι') ι' e.val v
  ups : ∀ id b, (id, b) ∈ e.ups → BRep w' (Own ι') ι' id b
  same : ∀ id, id ∉ e.kills → id ∉ keys e.ups → ι' id = ι id ∧ ι'.n id = ι.n id
  same' : ∀ id, id ∉ e.kills → ι id ≠ none → ι' id = ι id
  new : ∀ id k s, ι' id = some (k, s) → ι id = some (k, s) ∨ w.heap.size ≤ k
  newn : ∀ id k, ι'.n id k → ι.n id k ∨ w.heap.size ≤ k ∨ ∃ i, ph i = false ∧ np ≤ i.headD 0 ∧ Foot ι i k
  inj : ∀ id id' k, Foot ι' id k → Foot ι' id' k → id = id'
  sep : ∀ id k s, ι' id = some (k, s) → ¬ ι'.n id k
  live : ∀ id k, Foot ι' id k → k < w'.heap.size
  gone : ∀ id, id ∈ e.kills → id ∉ keys e.ups → ph id = true ∨ ∀ k, ¬ Foot ι' id k
  lent : ∀ id, id.headD 0 < np → id ∈ keys e.ups → ι' id = ι id ∧ ι'.n id = ι.n id ∧ (h id).isSome = true
  nodup : (keys e.ups).Nodup
  real : ∀ id, id ∈ keys e.ups → ph id = false
  phs : ∀ id, ph id = true → ι' id = ι id ∧ ι'.n id = ι.n id
theorem Foot.of {ι ι' : Map} {id id' : Id} {k : Nat} (h : Foot ι id k) (h1 : ι' id' = ι id) (h2 : ι'.n id' = ι.n id) : Foot ι' id' k := by
  rcases h with ⟨s, h⟩ | h
  · exact .inl ⟨s, h1.trans h⟩
  · exact .inr (by rw [h2]; exact h)
theorem Done.foot {np : Nat} {h : Heap} {w w' : World} {ι ι' : Map} {e : Eff} {v : Value} (D : Done np h w ι e v w' ι') {id : Id} {k : Nat} (hf : Foot ι' id k) : Foot ι id k ∨ w.heap.size ≤ k ∨ ∃ i, ph i = false ∧ np ≤ i.headD 0 ∧ Foot ι i k := by
  rcases hf with ⟨s, hf⟩ | hf
  · rcases D.new id k s hf with h | h
    · exact .inl (.name h)
    · exact .inr (.inl h)
  · rcases D.newn id k hf with h | h
    · exact .inl (.inr h)
    · exact .inr h
theorem Done.own {np : Nat} {h : Heap} {w w' : World} {ι ι' : Map} {e : Eff} {v : Value} (D : Done np h w ι e v w' ι') {k : Nat} (hk : k < w.heap.size) (ho : Own ι' k) : Own ι k := by
  obtain ⟨id, hf⟩ := ho
  rcases D.foot hf with h | h | ⟨i, _, _, h⟩
  · exact ⟨id, h⟩
  · omega
  · exact ⟨i, h⟩
/-- A map without some names; what these hold stays theirs. -/
def dropM (K : Id → Bool) (ι : Map) : Map := ⟨fun id => if K id then none else ι id, ι.n⟩

theorem upds_at (l : List (Id × Blk)) : ∀ (h : Heap) (id : Id), id ∉ keys l → upds h l id = h id := by
  induction l with
  | nil => intro h id _; rfl
  | cons p l ih =>
    intro h id hid
    obtain ⟨i, b⟩ := p
    simp only [keys, List.map_cons, List.mem_cons, not_or] at hid
    unfold upds
    rw [ih _ _ hid.2]
    simp [HU, hid.1]
theorem upds_mem (l : List (Id × Blk)) : ∀ (h : Heap) (id : Id) (b : Blk), (keys l).Nodup → (id, b) ∈ l → upds h l id = some b := by
  induction l with
  | nil => intro h id b _ hm; cases hm
  | cons p l ih =>
    intro h id b hn hm
    obtain ⟨i, c⟩ := p
    simp only [keys, List.map_cons, List.nodup_cons] at hn
    unfold upds
    rcases List.mem_cons.1 hm with e | hm
    · injection e with e1 e2; subst e1; subst e2
      rw [upds_at l _ _ hn.1]; simp [HU]
    · exact ih _ _ _ hn.2 hm
theorem upds_inv (l : List (Id × Blk)) (h : Heap) (id : Id) (b : Blk) (hn : (keys l).Nodup) (e : upds h l id = some b) : (id, b) ∈ l ∨ (id ∉ keys l ∧ h id = some b) := by
  by_cases hid : id ∈ keys l
  · obtain ⟨p, hp, hp'⟩ := List.mem_map.1 hid
    obtain ⟨i, c⟩ := p
    simp only at hp'; subst hp'
    rw [upds_mem l h _ c hn hp] at e; injection e with e; subst e
    exact .inl hp
  · rw [upds_at l h id hid] at e; exact .inr ⟨hid, e⟩

theorem act_put (a : Act) (d : Option Nat) (v : Value) (s : Nat) : (a.put d v).tmps.getD s undef = if d = some s ∧ s < a.tmps.size then v else a.tmps.getD s undef := by
  cases d with
  | none => simp [Act.put]
  | some d =>
    simp only [Act.put]
    by_cases hs : s < a.tmps.size
    · by_cases hd : d = s
      · subst hd; simp [hs]
      · simp [hd]
    · by_cases hd : d = s
      · subst hd; simp [hs]
      · simp [hd]

theorem kill_nil' (v : AV) : v.kill (fun _ => false) = v := kill_nil _ (fun _ => rfl) v
/-- What was said of old values and blocks, behind an effect. -/
theorem Done.old {np : Nat} {g : Heap} {w w' : World} {ι ι' : Map} {e : Eff} {v : Value} (D : Done np g w ι e v w' ι') (K : Id → Bool) (hK : ∀ id, K id = false → id ∉ e.kills) {u : AV} {x : Value} (h : Rep w (Own ι) ι u x) : Rep w' (Own ι') ι' (u.kill K) x := by
  have h1 := h.killed (ι' := dropM K ι) K (fun id p hk hp => by simp [dropM, hk, hp])
  refine h1.mono (D.ext.mono fun b _ ⟨id, _, h⟩ => ⟨id, h⟩) (fun b hb ho => D.own hb ho) ι' fun id p hp => ?_
  have hp : (if K id = true then none else ι id) = some p := hp
  split at hp
  · cases hp
  · rename_i hk
    simp only [Bool.not_eq_true] at hk
    rw [D.same' id (hK id hk) (by rw [hp]; simp), hp]
theorem Done.oldB {np : Nat} {g : Heap} {w w' : World} {h : Heap} {ι ι' : Map} {e : Eff} {v : Value} (D : Done np g w ι e v w' ι') (I : Inv w h ι) (K : Id → Bool) (hK : ∀ id, K id = false → id ∉ e.kills) {id : Id} {b : Blk} (hb : BRep w (Own ι) ι id b) (hid : K id = false) (hu : id ∉ keys e.ups) : BRep w' (Own ι') ι' id (b.kill K) := by
  have e1 : dropM K ι id = ι id := by simp [dropM, hid]
  have h1 := hb.killed (ι' := dropM K ι) K e1 rfl (fun i p hk hp => by simp [dropM, hk, hp])
  refine h1.mono (D.ext.mono fun b _ ⟨i, _, h⟩ => ⟨i, h⟩) (fun k hk ho => D.own hk ho) (fun k hk => ?_) ?_ (D.same id (hK id hid) hu).2 fun i p hp => ?_
  · have hk : Foot ι id k := hk.of (by rw [e1]) rfl
    refine D.ext.block k (I.live _ _ hk) fun ho => hu ?_
    obtain ⟨i, hi, hi'⟩ := ho
    rw [I.inj _ _ _ hk hi']; exact hi
  · rw [e1]; exact (D.same id (hK id hid) hu).1
  · have hp : (if K i = true then none else ι i) = some p := hp
    split at hp
    · cases hp
    · rename_i hk
      simp only [Bool.not_eq_true] at hk
      rw [D.same' i (hK i hk) (by rw [hp]; simp), hp]

/-- A frame behind an effect. -/
theorem Rel.app {np nt : Nat} {g : Heap} {ι0 : Map} {w w' : World} {σ : St} {ι ι' : Map} {a : Act} {e : Eff} {v : Value} (R : Rel np nt ι0 w σ ι a) (D : Done np g w ι e v w' ι') (hg : ∀ id, (g id).isSome = true → (σ.heap id).isSome = true) (d : Option Nat) (hd : ∀ s, d = some s → s < nt) : Rel np nt ι0 w' (σ.app e d) ι' (a.put d v) := by
  have key : ∀ K : Id → Bool, (∀ id, K id = decide (id ∈ e.kills)) → ∀ τ : St, τ.slot = putS (killS K σ.slot) d e.val → τ.heap = upds (killH K σ.heap) e.ups → Rel np nt ι0 w' τ ι' (a.put d v) := by
    intro K hK τ hs hh
    have hK' : ∀ id, K id = false → id ∉ e.kills := fun id h => by rw [hK] at h; simpa using h
    have hinv : ∀ id b, τ.heap id = some b → (id, b) ∈ e.ups ∨ (id ∉ keys e.ups ∧ K id = false ∧ ∃ b', σ.heap id = some b' ∧ b = b'.kill K) := by
      intro id b hb
      rw [hh] at hb
      rcases upds_inv _ _ _ _ D.nodup hb with h | ⟨h1, h2⟩
      · exact .inl h
      · refine .inr ⟨h1, ?_⟩
        unfold killH at h2
        cases hk : K id with
        | true => simp [hk] at h2
        | false =>
          simp only [hk] at h2
          cases hb' : σ.heap id with
          | none => simp [hb'] at h2
          | some b' => simp [hb'] at h2; exact ⟨rfl, b', rfl, h2.symm⟩
    refine ⟨by cases d <;> simp [Act.put] <;> exact R.size, ⟨fun id b hb => ?_, D.inj, D.sep, D.live, fun id b hb => ?_⟩, fun s => ?_, fun id p hp => ?_, fun id hid => ⟨(D.phs id hid).1.trans (R.phs id hid).1, (D.phs id hid).2.trans (R.phs id hid).2⟩, fun id hid hb => ?_, ?_⟩
    · rcases hinv id b hb with h | ⟨h1, h2, b', h3, rfl⟩
      · exact D.ups id b h
      · exact D.oldB R.inv K hK' (R.inv.blk id b' h3) h2 h1
    · rcases hinv id b hb with h | ⟨_, _, b', h3, _⟩
      · exact D.real id (List.mem_map.2 ⟨_, h, rfl⟩)
      · exact R.inv.real id b' h3
    · rw [hs, act_put]
      cases d with
      | none => simp only [putS]; simpa [killS] using D.old K hK' (R.slots s)
      | some d =>
        simp only [putS, U]
        by_cases hsd : s = d
        · subst hsd
          have hlt : s < a.tmps.size := Nat.lt_of_lt_of_le (hd s rfl) R.size
          simp [hlt]; exact D.val
        · have hds : ¬ d = s := fun h => hsd h.symm
          simp [hsd, hds]
          simpa [killS] using D.old K hK' (R.slots s)
    · rw [hh]
      by_cases hu : id ∈ keys e.ups
      · obtain ⟨q, hq, hq'⟩ := List.mem_map.1 hu
        obtain ⟨i, c⟩ := q
        simp only at hq'; subst hq'
        rw [upds_mem _ _ _ c D.nodup hq]; exact .inr rfl
      · rw [upds_at _ _ _ hu]
        by_cases hph : ph id = true
        · exact .inl hph
        · have hk : id ∉ e.kills := fun h => by
            rcases D.gone id h hu with h | h
            · exact hph h
            · exact h _ hp
          have hkf : K id = false := by rw [hK]; simpa using hk
          have hp : Foot ι id p := hp.of (D.same id hk hu).1.symm (D.same id hk hu).2.symm
          have := (R.dom id p hp).resolve_left hph
          right
          unfold killH; simp [hkf, this]
    · by_cases hu : id ∈ keys e.ups
      · obtain ⟨h1, h2, h3⟩ := D.lent id hid hu
        rw [h1, h2]; exact R.lent id hid (hg id h3)
      · rw [hh, upds_at _ _ _ hu] at hb
        unfold killH at hb
        cases hk : K id with
        | true => simp [hk] at hb
        | false =>
          simp [hk] at hb
          rw [(D.same id (hK' id hk) hu).1, (D.same id (hK' id hk) hu).2]
          exact R.lent id hid (by simpa using hb)
    · cases d <;> simp [Act.put, R.defers]
  unfold St.app
  cases hk : e.kills with
  | nil =>
    refine key (fun _ => false) (fun id => by simp [hk]) _ ?_ ?_
    · simp only []; congr 1; funext x; simp [killS, kill_nil']
    · simp only []; congr 1; funext x; simp [killH]
      cases σ.heap x <;> simp [killB_nil]
  | cons k ks =>
    refine key (inL (k :: ks)) (fun id => by simp [hk, inL]) _ ?_ ?_
    · simp only []
    · simp only []
end Go.Proofs.YtndgpinhbffleaaGreat


namespace Go.Proofs.YtndgpinhbffleaaGreat
open Go Go.RowKit

def Callable (P : Program) (f : FuncId) : Prop := ∃ fn, P.funcs[f]? = some fn ∧ fn.name ≠ "runtime.NumGoroutine" ∧ fn.body.isNone = false
def Both (ι ιo : Map) : Nat → Prop := fun b => Own ι b ∨ Own ιo b
/-- The names of an answer: what is new, and what was lent. -/
def jn (ι ιo : Map) : Map := ⟨fun x => match ownIx x with
  | some _ => ιo x
  | none => ι x, ι.n⟩
/-- What a call leaves. -/
structure Left1 (ι : Map) (H : List (Id × Blk)) (r : Res) (w w' : World) (rv : Value) (ιo : Map) : Prop where
  ext : Ext (fun k => ∃ id, id ∈ keys H ∧ Foot ι id k) w w'
  ioLen : r.io.length = H.length
  io : ∀ k, k < H.length → BRep w' (Both ι ιo) ι ((H.map (·.1)).getD k []) (r.io.getD k default)
  own : ∀ k, k < r.own.length → BRepN w' (Both ι ιo) (ιo [k, 0, 0, 0]) (ιo.n [k, 0, 0, 0]) (r.own.getD k default)
  inj : ∀ id id' k, Foot ιo id k → Foot ιo id' k → id = id'
  sep : ∀ id k s, ιo id = some (k, s) → ¬ ιo.n id k
  new : ∀ id k, Foot ιo id k → w.heap.size ≤ k ∧ k < w'.heap.size ∧ ∃ n, n < r.own.length ∧ id = [n, 0, 0, 0]
  val : Rep w' (Both ι ιo) (jn ι ιo) r.val rv
/-- A call answers as told. -/
def Sound (P : Program) (f : FuncId) (args : List AV) (H : List (Id × Blk)) (r : Res) : Prop :=
  Callable P f ∧ ∀ (w : World) (ι : Map) (vals : Array Value), args.length = vals.size → Inv w (heapOf H) ι → (∀ i, i < args.length → Rep w (Own ι) ι (args.getD i .dead) (vals.getD i undef)) →
    (∀ id k, Foot ι id k → ph id = true ∨ id ∈ keys H) → (∀ id, id ∈ keys H → ph id = false) → (keys H).Nodup → (∀ id, id ∈ keys H → id.headD 0 < args.length) →
    Calls P f vals w fun e w' => ∃ rv ιo, e = .returned rv ∧ Left1 ι H r w w' rv ιo

/-- One operation does what its effect says. -/
def OpOK (P : Program) (np : Nat) (g : Heap) (o : Oper) (a : Act) (w : World) (ι : Map) (e : Eff) : Prop :=
  ∀ (next : Act → World → Prop) (Q : Exit → Act → World → Prop), (∀ v w' ι', Done np g w ι e v w' ι' → next (a.put o.dst v) w') → o.wp P a w next Q
def OpsOK (P : Program) (E : Oracle) (A : FuncId → Ann) (an : Ann) : Prop :=
  ∀ (o : Oper) (ρ : Operand → AV) (g : Heap) (e : Eff) (a : Act) (w : World) (ι : Map), aop P E A an o ρ g = some e → Inv w g ι → (∀ x, Rep w (Own ι) ι (ρ x) (a.eval x)) →
    (∀ id k, id ∈ keys e.ups → ph id = false → Foot ι id k → (g id).isSome = true) → OpOK P an.np g o a w ι e

/-- The blocks that a call was lent. -/
def OwnH (ι : Map) : Nat → Prop := fun b => ∃ id, ph id = false ∧ Foot ι id b
/-- A frame in the midst of its call. -/
structure Mid (np nt : Nat) (w0 : World) (ι0 : Map) (w : World) (σ : St) (ι : Map) (a : Act) : Prop where
  rel : Rel np nt ι0 w σ ι a
  ext : Ext (OwnH ι0) w0 w
  old : ∀ id k, Foot ι id k → k < w0.heap.size → Foot ι0 id k
  start : ∀ id k, Foot ι0 id k → ph id = true ∨ id.headD 0 < np

theorem Mid.app {np nt : Nat} {g : Heap} {w0 : World} {ι0 : Map} {w w' : World} {σ : St} {ι ι' : Map} {a : Act} {e : Eff} {v : Value} (M : Mid np nt w0 ι0 w σ ι a) (D : Done np g w ι e v w' ι') (hg : ∀ id, (g id).isSome = true → (σ.heap id).isSome = true) (d : Option Nat) (hd : ∀ s, d = some s → s < nt) : Mid np nt w0 ι0 w' (σ.app e d) ι' (a.put d v) := by
  refine ⟨M.rel.app D hg d hd, ?_, fun id k hk hlt => ?_, M.start⟩
  · have h2 := D.ext
    refine ⟨h2.os.trans M.ext.os, h2.tape.trans M.ext.tape, h2.output.trans M.ext.output, Nat.le_trans M.ext.size h2.size, fun k hk ho => ?_, fun k hk => ?_⟩
    · rw [h2.block k (Nat.lt_of_lt_of_le hk M.ext.size) (fun ⟨id, hi, h⟩ => ho ⟨id, D.real id hi, M.old id k h hk⟩)]
      exact M.ext.block k hk ho
    · rw [h2.shape k (Nat.lt_of_lt_of_le hk M.ext.size)]; exact M.ext.shape k hk
  · rcases D.foot hk with h | h | ⟨i, h1, h2, h3⟩
    · exact M.old id k h hlt
    · have := M.ext.size; omega
    · rcases M.start i k (M.old i k h3 hlt) with h | h
      · rw [h1] at h; cases h
      · omega
/-- A map without some names. -/
def weakM (ks : Id → Bool) (ι : Map) : Map := ⟨fun id => if ks id && !ph id then none else ι id, fun id k => (ks id && !ph id) = false ∧ ι.n id k⟩
/-- Less is known of the slots and blocks. -/
theorem Mid.weak {np nt : Nat} {w0 : World} {ι0 : Map} {w : World} {σ τ : St} {ι : Map} {a : Act} (M : Mid np nt w0 ι0 w σ ι a) (ks : Id → Bool)
    (hs : ∀ s, τ.slot s = .dead ∨ τ.slot s = (σ.slot s).kill ks) (hh : ∀ id, (τ.heap id = none ∧ ks id = true) ∨ (ks id = false ∧ τ.heap id = (σ.heap id).map (Blk.kill ks))) :
    Mid np nt w0 ι0 w τ (weakM ks ι) a := by
  have hF : ∀ id k, Foot (weakM ks ι) id k → (ks id && !ph id) = false ∧ Foot ι id k := by
    rintro id k (⟨s, h⟩ | h)
    · replace h : (if (ks id && !ph id) = true then none else ι id) = some _ := h
      split at h
      · cases h
      · rename_i hc; exact ⟨by simpa using hc, .name h⟩
    · exact ⟨h.1, .inr h.2⟩
  have hI : ∀ id, (ks id && !ph id) = false → weakM ks ι id = ι id ∧ (weakM ks ι).n id = ι.n id := by
    intro id h
    refine ⟨?_, ?_⟩
    · show (if (ks id && !ph id) = true then none else ι id) = _
      rw [if_neg (by simp [h])]
    · funext k
      show ((ks id && !ph id) = false ∧ ι.n id k) = ι.n id k
      simp [h]
  have hO : ∀ b, Own (weakM ks ι) b → Own ι b := by
    rintro b ⟨id, h⟩
    exact ⟨id, (hF id b h).2⟩
  have hS : ∀ i p, weakM ks ι i = some p → ι i = some p := by
    intro i p h
    replace h : (if (ks i && !ph i) = true then none else ι i) = some _ := h
    split at h
    · cases h
    · exact h
  have inv : Inv w τ.heap (weakM ks ι) := by
    refine ⟨fun id b hb => ?_, fun id id' k h1 h2 => M.rel.inv.inj _ _ _ (hF _ _ h1).2 (hF _ _ h2).2, fun id k s h hn => M.rel.inv.sep id k s (hS _ _ h) hn.2, fun id k h => M.rel.inv.live _ _ (hF _ _ h).2, fun id b hb => ?_⟩
    · rcases hh id with ⟨h1, _⟩ | ⟨h1, h2⟩
      · rw [h1] at hb; cases hb
      · rw [h2] at hb
        cases hb' : σ.heap id with
        | none => simp [hb'] at hb
        | some b' =>
          simp [hb'] at hb; subst hb
          have := (M.rel.inv.blk id b' hb').killed (ι' := weakM ks ι) ks (hI id (by simp [h1])).1 (hI id (by simp [h1])).2 (fun i p h1 h2 => by rw [(hI i (by simp [h1])).1]; exact h2)
          exact this.mono (Ext.refl _ w) (fun k _ h => hO k h) (fun _ _ => rfl) rfl rfl fun _ _ h => h
    · rcases hh id with ⟨h1, _⟩ | ⟨_, h2⟩
      · rw [h1] at hb; cases hb
      · rw [h2] at hb
        cases hb' : σ.heap id with
        | none => simp [hb'] at hb
        | some b' => exact M.rel.inv.real id b' hb'
  refine ⟨⟨M.rel.size, inv, fun s => ?_, fun id p h => ?_, fun id h => ?_, fun id h1 h2 => ?_, M.rel.defers⟩, M.ext, fun id k h hk => M.old id k (hF _ _ h).2 hk, M.start⟩
  · rcases hs s with h | h
    · rw [h]; exact .dead _
    · rw [h]
      have := (M.rel.slots s).killed (ι' := weakM ks ι) ks (fun i p h1 h2 => by rw [(hI i (by simp [h1])).1]; exact h2)
      exact this.mono (Ext.refl _ w) (fun k _ h => hO k h) _ fun _ _ h => h
  · obtain ⟨hn, h⟩ := hF _ _ h
    rcases M.rel.dom id p h with h4 | h4
    · exact .inl h4
    · rcases hh id with ⟨_, h1⟩ | ⟨_, h2⟩
      · cases hp : ph id with
        | true => exact .inl rfl
        | false => simp [h1, hp] at hn
      · right; rw [h2]; simpa using h4
  · have := hI id (by simp [h])
    rw [this.1, this.2]
    exact M.rel.phs id h
  · rcases hh id with ⟨h3, _⟩ | ⟨h3, h4⟩
    · rw [h3] at h2; cases h2
    · have := hI id (by simp [h3])
      rw [this.1, this.2]; rw [h4] at h2
      exact M.rel.lent id h1 (by simpa using h2)
theorem weakM_none (ι : Map) : weakM (fun _ => false) ι = ι := Map.ext' (fun i => by simp [weakM]) fun i k => by simp [weakM]
theorem Mid.restr {np nt : Nat} {w0 : World} {ι0 : Map} {w : World} {σ : St} {ι : Map} {a : Act} (M : Mid np nt w0 ι0 w σ ι a) (vs : List Nat) : Mid np nt w0 ι0 w ⟨Go.Proofs.YtndgpinhbffleaaGreat.restr vs σ.slot, σ.heap⟩ ι a := by
  have := M.weak (τ := ⟨Go.Proofs.YtndgpinhbffleaaGreat.restr vs σ.slot, σ.heap⟩) (fun _ => false) (fun s => by by_cases h : s ∈ vs <;> simp [Go.Proofs.YtndgpinhbffleaaGreat.restr, h, kill_nil']) (fun id => .inr ⟨rfl, by cases σ.heap id <;> simp [killB_nil]⟩)
  rwa [weakM_none] at this
theorem Mid.cut {np nt : Nat} {w0 : World} {ι0 : Map} {w : World} {σ : St} {ι : Map} {a : Act} (M : Mid np nt w0 ι0 w σ ι a) (vs : List Nat) (is : List Id) : ∃ ι', Mid np nt w0 ι0 w (cutSt vs is σ) ι' a := by
  refine ⟨_, M.weak (τ := cutSt vs is σ) (outL is) (fun s => ?_) (fun id => ?_)⟩
  · by_cases h : s ∈ vs
    · right; simp [cutSt, killS, Go.Proofs.YtndgpinhbffleaaGreat.restr, h]
    · left; simp [cutSt, killS, Go.Proofs.YtndgpinhbffleaaGreat.restr, h, AV.kill]
  · by_cases h : id ∈ is
    · right; simp [cutSt, killH, outL, h, restrH]
    · left; simp [cutSt, killH, outL, h]
theorem Mid.drew {np nt : Nat} {w0 : World} {ι0 : Map} {w : World} {σ : St} {ι : Map} {a : Act} (M : Mid np nt w0 ι0 w σ ι a) : Mid np nt w0 ι0 { w with drawn := w.drawn + 1 } σ ι a := by
  have hx : Ext (Own ι) w { w with drawn := w.drawn + 1 } := ⟨rfl, rfl, rfl, Nat.le_refl _, fun _ _ _ => rfl, fun _ _ => rfl⟩
  refine ⟨⟨M.rel.size, ⟨fun id b hb => (M.rel.inv.blk id b hb).mono hx (fun _ _ h => h) (fun _ _ => rfl) rfl rfl fun _ _ h => h, M.rel.inv.inj, M.rel.inv.sep, M.rel.inv.live, M.rel.inv.real⟩, fun s => (M.rel.slots s).mono hx (fun _ _ h => h) _ fun _ _ h => h, M.rel.dom, M.rel.phs, M.rel.lent, M.rel.defers⟩, ?_, M.old, M.start⟩
  exact M.ext.trans ⟨rfl, rfl, rfl, Nat.le_refl _, fun _ _ _ => rfl, fun _ _ => rfl⟩

/-- The machine comes to what is told of it. -/
def Comes1 (np nt : Nat) (w0 : World) (ι0 : Map) (Q : Exit → Act → World → Prop) (e : Ex) (σ : St) : Prop :=
  ∀ w ι a, Mid np nt w0 ι0 w σ ι a → match e with
    | .normal => Q .normal a w
    | .exit i => Q (.exit i) a w
    | .ret => Q .ret a w

theorem Mid.ev {np nt : Nat} {w0 : World} {ι0 : Map} {w : World} {σ : St} {ι : Map} {a : Act} (M : Mid np nt w0 ι0 w σ ι a) (x : Operand) : Rep w (Own ι) ι (σ.ev x) (a.eval x) := by
  have cell : ∀ (ι : Map) (v : Value), Rep w (Own ι) ι (AV.ofCell v) v := by
    intro ι v
    unfold AV.ofCell
    split <;> first | exact .str rfl | constructor
  cases x with
  | tmp t => exact M.rel.slots t
  | const v =>
    simp only [St.ev, Act.eval, AV.ofValue]
    cases v with
    | agg cs =>
      simp only []
      refine .agg (by simp) fun i hi => ?_
      have h : i < cs.size := by simpa using hi
      simp [h]
      exact cell ι _
    | _ => exact cell ι _
  | global g => exact .dead _
  | func f => exact .fn (by simp) (fun i hi => by simp at hi)
end Go.Proofs.YtndgpinhbffleaaGreat


namespace Go.Proofs.YtndgpinhbffleaaGreat
open Go
section
variable {C : Ctx} {an : Ann} {c : Code} {k : Nat}
/-- A loop that goes over a list with a number; 'a' is what it gathers, 'o' what it leaves, told of the rest of the list. -/
theorem loop_list {σ0 : St} {l : List It} {α β : Type} (G : Out → Prop) (xs : List β) (I : Nat → α → Prop) (σ : Nat → α → St) (o : List β → Nat → α → Ex × St) (a0 : α) (h0 : I 0 a0) (hσ : σ0 = σ 0 a0)
    (step : ∀ n a x t, n < xs.length → (∀ h : n < xs.length, xs[n] = x) → xs.drop n = x :: t → I n a → Back (keepSt an k) (some (o (x :: t) n a)) (fun τ => ∃ a', I (n + 1) a' ∧ τ = σ (n + 1) a' ∧ o t (n + 1) a' = o (x :: t) n a) (run C an [.code c k] (σ n a)))
    (done : ∀ a, I xs.length a → run C an [.code c k] (σ xs.length a) = some (o [] xs.length a)) (hend : ∀ a, (o [] xs.length a).1 = .normal → False)
    (g : G (after C an (some (o xs 0 a0)) l)) : G (after C an (lp C an c k σ0) l) := by
  refine loop_at G (fun x : Nat × α => x.1 ≤ xs.length ∧ I x.1 x.2) (fun x => σ x.1 x.2) (fun x => o (xs.drop x.1) x.1 x.2) (fun x => xs.length - x.1) (0, a0) ⟨by simp, h0⟩ hσ ?_ (by simpa using g)
  rintro ⟨n, a⟩ ⟨hn, hI⟩
  simp only at hn hI ⊢
  by_cases hlt : n < xs.length
  · have hd : xs.drop n = xs[n] :: xs.drop (n + 1) := List.drop_eq_getElem_cons hlt
    have h := step n a xs[n] (xs.drop (n + 1)) hlt (fun _ => rfl) hd hI
    rw [hd]
    cases hr : run C an [.code c k] (σ n a) with
    | none => rw [hr] at h; cases h
    | some q =>
      obtain ⟨e, σ'⟩ := q
      rw [hr] at h
      cases e with
      | normal =>
        obtain ⟨a', h1, h2, h3⟩ := h
        exact ⟨(n + 1, a'), ⟨hlt, h1⟩, by simp only; omega, h2, h3⟩
      | exit i => exact h
      | ret => exact h
  · obtain rfl : n = xs.length := by omega
    rw [List.drop_length, done a hI]
    have := hend a
    generalize o [] xs.length a = q at this ⊢
    obtain ⟨e, σ'⟩ := q
    cases e with
    | normal => exact (this rfl).elim
    | exit i => rfl
    | ret => rfl
/-- The same, what is to be shown of a round's end held apart. -/
theorem loop_for {σ0 : St} {l : List It} {α β : Type} (G : Out → Prop) (xs : List β) (I : Nat → α → Prop) (σ : Nat → α → St) (o : List β → Nat → α → Ex × St) (a0 : α) (h0 : I 0 a0) (hσ : σ0 = σ 0 a0)
    (step : ∀ (R : St → Prop) n a x t, n < xs.length → (∀ h : n < xs.length, xs[n] = x) → xs.drop n = x :: t → I n a → (∀ a', I (n + 1) a' → o t (n + 1) a' = o (x :: t) n a → R (σ (n + 1) a')) → Back (keepSt an k) (some (o (x :: t) n a)) R (run C an [.code c k] (σ n a)))
    (done : ∀ a, I xs.length a → run C an [.code c k] (σ xs.length a) = some (o [] xs.length a)) (hend : ∀ a, (o [] xs.length a).1 = .normal → False)
    (g : G (after C an (some (o xs 0 a0)) l)) : G (after C an (lp C an c k σ0) l) :=
  loop_list G xs I σ o a0 h0 hσ (fun n a x t h1 h2 h3 h4 => step _ n a x t h1 h2 h3 h4 fun a' h5 h6 => ⟨a', h5, rfl, h6⟩) done hend g
end
end Go.Proofs.YtndgpinhbffleaaGreat


namespace Go.Proofs.YtndgpinhbffleaaGreat
open Go
theorem tyi_3 : tyi Tryz.prog 3 = some ⟨1, 8, false, [.int .i64 0], .int .i64⟩ := by kernel_rfl
theorem tkind_3 : tkind Tryz.prog 3 = .int .i64 := by kernel_rfl
theorem tsize_3 : tsize Tryz.prog 3 = 1 := by kernel_rfl
theorem tagg_3 : tagg Tryz.prog 3 = false := by kernel_rfl
theorem tyi_4 : tyi Tryz.prog 4 = some ⟨1, 1, false, [.bool false], .bool⟩ := by kernel_rfl
theorem tkind_4 : tkind Tryz.prog 4 = .bool := by kernel_rfl
theorem tsize_4 : tsize Tryz.prog 4 = 1 := by kernel_rfl
theorem tagg_4 : tagg Tryz.prog 4 = false := by kernel_rfl
theorem tyi_5 : tyi Tryz.prog 5 = some ⟨1, 1, false, [.int .u8 0], .int .u8⟩ := by kernel_rfl
theorem tkind_5 : tkind Tryz.prog 5 = .int .u8 := by kernel_rfl
theorem tsize_5 : tsize Tryz.prog 5 = 1 := by kernel_rfl
theorem tagg_5 : tagg Tryz.prog 5 = false := by kernel_rfl
theorem tyi_9 : tyi Tryz.prog 9 = some ⟨1, 16, false, [.str []], .str⟩ := by kernel_rfl
theorem tkind_9 : tkind Tryz.prog 9 = .str := by kernel_rfl
theorem tsize_9 : tsize Tryz.prog 9 = 1 := by kernel_rfl
theorem tagg_9 : tagg Tryz.prog 9 = false := by kernel_rfl
theorem tyi_20 : tyi Tryz.prog 20 = some ⟨1, 16, false, [.niliface], .iface true⟩ := by kernel_rfl
theorem tkind_20 : tkind Tryz.prog 20 = .iface true := by kernel_rfl
theorem tsize_20 : tsize Tryz.prog 20 = 1 := by kernel_rfl
theorem tagg_20 : tagg Tryz.prog 20 = false := by kernel_rfl
theorem tyi_22 : tyi Tryz.prog 22 = some ⟨1, 24, false, [.nil], .slice 5⟩ := by kernel_rfl
theorem tkind_22 : tkind Tryz.prog 22 = .slice 5 := by kernel_rfl
theorem tsize_22 : tsize Tryz.prog 22 = 1 := by kernel_rfl
theorem tagg_22 : tagg Tryz.prog 22 = false := by kernel_rfl
theorem tyi_23 : tyi Tryz.prog 23 = some ⟨1, 24, false, [.nil], .slice 3⟩ := by kernel_rfl
theorem tkind_23 : tkind Tryz.prog 23 = .slice 3 := by kernel_rfl
theorem tsize_23 : tsize Tryz.prog 23 = 1 := by kernel_rfl
theorem tagg_23 : tagg Tryz.prog 23 = false := by kernel_rfl
theorem tyi_24 : tyi Tryz.prog 24 = some ⟨1, 24, false, [.nil], .slice 94⟩ := by kernel_rfl
theorem tkind_24 : tkind Tryz.prog 24 = .slice 94 := by kernel_rfl
theorem tsize_24 : tsize Tryz.prog 24 = 1 := by kernel_rfl
theorem tagg_24 : tagg Tryz.prog 24 = false := by kernel_rfl
theorem tyi_26 : tyi Tryz.prog 26 = some ⟨4, 96, true, [.nil, .nil, .nil, .nil], .strct [(0, 1, false), (1, 1, false), (2, 1, false), (3, 1, false)]⟩ := by kernel_rfl
theorem tkind_26 : tkind Tryz.prog 26 = .strct [(0, 1, false), (1, 1, false), (2, 1, false), (3, 1, false)] := by kernel_rfl
theorem tsize_26 : tsize Tryz.prog 26 = 4 := by kernel_rfl
theorem tagg_26 : tagg Tryz.prog 26 = true := by kernel_rfl
theorem held_26 : Tryz.prog.stoodInHeld 26 = false := by kernel_rfl
theorem guard_26 : Tryz.prog.eqGuardType Tryz.prog.depth 26 = false := by kernel_rfl
theorem tyi_47 : tyi Tryz.prog 47 = some ⟨1, 24, false, [.nil], .slice 9⟩ := by kernel_rfl
theorem tkind_47 : tkind Tryz.prog 47 = .slice 9 := by kernel_rfl
theorem tsize_47 : tsize Tryz.prog 47 = 1 := by kernel_rfl
theorem tagg_47 : tagg Tryz.prog 47 = false := by kernel_rfl
theorem tyi_57 : tyi Tryz.prog 57 = some ⟨1, 24, false, [.nil], .slice 69⟩ := by kernel_rfl
theorem tkind_57 : tkind Tryz.prog 57 = .slice 69 := by kernel_rfl
theorem tsize_57 : tsize Tryz.prog 57 = 1 := by kernel_rfl
theorem tagg_57 : tagg Tryz.prog 57 = false := by kernel_rfl
theorem tyi_60 : tyi Tryz.prog 60 = some ⟨1, 24, false, [.nil], .slice 155⟩ := by kernel_rfl
theorem tkind_60 : tkind Tryz.prog 60 = .slice 155 := by kernel_rfl
theorem tsize_60 : tsize Tryz.prog 60 = 1 := by kernel_rfl
theorem tagg_60 : tagg Tryz.prog 60 = false := by kernel_rfl
theorem tyi_62 : tyi Tryz.prog 62 = some ⟨2, 48, true, [.nil, .nil], .strct [(0, 1, false), (1, 1, false)]⟩ := by kernel_rfl
theorem tkind_62 : tkind Tryz.prog 62 = .strct [(0, 1, false), (1, 1, false)] := by kernel_rfl
theorem tsize_62 : tsize Tryz.prog 62 = 2 := by kernel_rfl
theorem tagg_62 : tagg Tryz.prog 62 = true := by kernel_rfl
theorem held_62 : Tryz.prog.stoodInHeld 62 = false := by kernel_rfl
theorem guard_62 : Tryz.prog.eqGuardType Tryz.prog.depth 62 = false := by kernel_rfl
theorem tyi_69 : tyi Tryz.prog 69 = some ⟨2, 24, true, [.int .i64 0, .str []], .strct [(0, 1, false), (1, 1, false)]⟩ := by kernel_rfl
theorem tkind_69 : tkind Tryz.prog 69 = .strct [(0, 1, false), (1, 1, false)] := by kernel_rfl
theorem tsize_69 : tsize Tryz.prog 69 = 2 := by kernel_rfl
theorem tagg_69 : tagg Tryz.prog 69 = true := by kernel_rfl
theorem held_69 : Tryz.prog.stoodInHeld 69 = false := by kernel_rfl
theorem guard_69 : Tryz.prog.eqGuardType Tryz.prog.depth 69 = false := by kernel_rfl
theorem tyi_71 : tyi Tryz.prog 71 = some ⟨3, 40, true, [.int .i64 0, .int .i64 0, .nil], .strct [(0, 1, false), (1, 1, false), (2, 1, false)]⟩ := by kernel_rfl
theorem tkind_71 : tkind Tryz.prog 71 = .strct [(0, 1, false), (1, 1, false), (2, 1, false)] := by kernel_rfl
theorem tsize_71 : tsize Tryz.prog 71 = 3 := by kernel_rfl
theorem tagg_71 : tagg Tryz.prog 71 = true := by kernel_rfl
theorem held_71 : Tryz.prog.stoodInHeld 71 = false := by kernel_rfl
theorem guard_71 : Tryz.prog.eqGuardType Tryz.prog.depth 71 = false := by kernel_rfl
theorem tyi_75 : tyi Tryz.prog 75 = some ⟨4, 40, true, [.int .i64 0, .int .i64 0, .int .i64 0, .str []], .strct [(0, 1, false), (1, 1, false), (2, 1, false), (3, 1, false)]⟩ := by kernel_rfl
theorem tkind_75 : tkind Tryz.prog 75 = .strct [(0, 1, false), (1, 1, false), (2, 1, false), (3, 1, false)] := by kernel_rfl
theorem tsize_75 : tsize Tryz.prog 75 = 4 := by kernel_rfl
theorem tagg_75 : tagg Tryz.prog 75 = true := by kernel_rfl
theorem held_75 : Tryz.prog.stoodInHeld 75 = false := by kernel_rfl
theorem guard_75 : Tryz.prog.eqGuardType Tryz.prog.depth 75 = false := by kernel_rfl
theorem tyi_87 : tyi Tryz.prog 87 = some ⟨1, 8, false, [.nilptr], .other⟩ := by kernel_rfl
theorem tkind_87 : tkind Tryz.prog 87 = .other := by kernel_rfl
theorem tsize_87 : tsize Tryz.prog 87 = 1 := by kernel_rfl
theorem tagg_87 : tagg Tryz.prog 87 = false := by kernel_rfl
theorem tyi_94 : tyi Tryz.prog 94 = some ⟨2, 40, true, [.str [], .nil], .strct [(0, 1, false), (1, 1, false)]⟩ := by kernel_rfl
theorem tkind_94 : tkind Tryz.prog 94 = .strct [(0, 1, false), (1, 1, false)] := by kernel_rfl
theorem tsize_94 : tsize Tryz.prog 94 = 2 := by kernel_rfl
theorem tagg_94 : tagg Tryz.prog 94 = true := by kernel_rfl
theorem held_94 : Tryz.prog.stoodInHeld 94 = false := by kernel_rfl
theorem guard_94 : Tryz.prog.eqGuardType Tryz.prog.depth 94 = false := by kernel_rfl
theorem tyi_98 : tyi Tryz.prog 98 = some ⟨1, 8, false, [.nilfn], .func⟩ := by kernel_rfl
theorem tkind_98 : tkind Tryz.prog 98 = .func := by kernel_rfl
theorem tsize_98 : tsize Tryz.prog 98 = 1 := by kernel_rfl
theorem tagg_98 : tagg Tryz.prog 98 = false := by kernel_rfl
theorem tyi_101 : tyi Tryz.prog 101 = some ⟨1, 8, false, [.nilfn], .func⟩ := by kernel_rfl
theorem tkind_101 : tkind Tryz.prog 101 = .func := by kernel_rfl
theorem tsize_101 : tsize Tryz.prog 101 = 1 := by kernel_rfl
theorem tagg_101 : tagg Tryz.prog 101 = false := by kernel_rfl
theorem tyi_132 : tyi Tryz.prog 132 = some ⟨3, 40, true, [.nil, .int .i64 0, .int .i64 0], .strct [(0, 1, false), (1, 1, false), (2, 1, false)]⟩ := by kernel_rfl
theorem tkind_132 : tkind Tryz.prog 132 = .strct [(0, 1, false), (1, 1, false), (2, 1, false)] := by kernel_rfl
theorem tsize_132 : tsize Tryz.prog 132 = 3 := by kernel_rfl
theorem tagg_132 : tagg Tryz.prog 132 = true := by kernel_rfl
theorem held_132 : Tryz.prog.stoodInHeld 132 = false := by kernel_rfl
theorem guard_132 : Tryz.prog.eqGuardType Tryz.prog.depth 132 = false := by kernel_rfl
theorem tyi_133 : tyi Tryz.prog 133 = some ⟨1, 8, false, [.nilfn], .func⟩ := by kernel_rfl
theorem tkind_133 : tkind Tryz.prog 133 = .func := by kernel_rfl
theorem tsize_133 : tsize Tryz.prog 133 = 1 := by kernel_rfl
theorem tagg_133 : tagg Tryz.prog 133 = false := by kernel_rfl
theorem tyi_136 : tyi Tryz.prog 136 = some ⟨1, 24, false, [.nil], .slice 23⟩ := by kernel_rfl
theorem tkind_136 : tkind Tryz.prog 136 = .slice 23 := by kernel_rfl
theorem tsize_136 : tsize Tryz.prog 136 = 1 := by kernel_rfl
theorem tagg_136 : tagg Tryz.prog 136 = false := by kernel_rfl
theorem tyi_139 : tyi Tryz.prog 139 = some ⟨1, 24, false, [.nil], .slice 20⟩ := by kernel_rfl
theorem tkind_139 : tkind Tryz.prog 139 = .slice 20 := by kernel_rfl
theorem tsize_139 : tsize Tryz.prog 139 = 1 := by kernel_rfl
theorem tagg_139 : tagg Tryz.prog 139 = false := by kernel_rfl
theorem tyi_155 : tyi Tryz.prog 155 = some ⟨3, 32, true, [.int .i64 0, .int .i64 0, .str []], .strct [(0, 1, false), (1, 1, false), (2, 1, false)]⟩ := by kernel_rfl
theorem tkind_155 : tkind Tryz.prog 155 = .strct [(0, 1, false), (1, 1, false), (2, 1, false)] := by kernel_rfl
theorem tsize_155 : tsize Tryz.prog 155 = 3 := by kernel_rfl
theorem tagg_155 : tagg Tryz.prog 155 = true := by kernel_rfl
theorem held_155 : Tryz.prog.stoodInHeld 155 = false := by kernel_rfl
theorem guard_155 : Tryz.prog.eqGuardType Tryz.prog.depth 155 = false := by kernel_rfl
theorem tyi_165 : tyi Tryz.prog 165 = some ⟨1, 8, false, [.nilfn], .func⟩ := by kernel_rfl
theorem tkind_165 : tkind Tryz.prog 165 = .func := by kernel_rfl
theorem tsize_165 : tsize Tryz.prog 165 = 1 := by kernel_rfl
theorem tagg_165 : tagg Tryz.prog 165 = false := by kernel_rfl
theorem tyi_177 : tyi Tryz.prog 177 = some ⟨1, 8, false, [.nilfn], .func⟩ := by kernel_rfl
theorem tkind_177 : tkind Tryz.prog 177 = .func := by kernel_rfl
theorem tsize_177 : tsize Tryz.prog 177 = 1 := by kernel_rfl
theorem tagg_177 : tagg Tryz.prog 177 = false := by kernel_rfl
theorem tyi_188 : tyi Tryz.prog 188 = some ⟨1, 8, false, [.int .u64 0], .int .u64⟩ := by kernel_rfl
theorem tkind_188 : tkind Tryz.prog 188 = .int .u64 := by kernel_rfl
theorem tsize_188 : tsize Tryz.prog 188 = 1 := by kernel_rfl
theorem tagg_188 : tagg Tryz.prog 188 = false := by kernel_rfl
theorem tyi_195 : tyi Tryz.prog 195 = some ⟨1, 8, false, [.int .i64 0], .int .i64⟩ := by kernel_rfl
theorem tkind_195 : tkind Tryz.prog 195 = .int .i64 := by kernel_rfl
theorem tsize_195 : tsize Tryz.prog 195 = 1 := by kernel_rfl
theorem tagg_195 : tagg Tryz.prog 195 = false := by kernel_rfl
theorem tyi_203 : tyi Tryz.prog 203 = some ⟨1, 4, false, [.int .u32 0], .int .u32⟩ := by kernel_rfl
theorem tkind_203 : tkind Tryz.prog 203 = .int .u32 := by kernel_rfl
theorem tsize_203 : tsize Tryz.prog 203 = 1 := by kernel_rfl
theorem tagg_203 : tagg Tryz.prog 203 = false := by kernel_rfl
theorem tyi_205 : tyi Tryz.prog 205 = some ⟨1, 8, false, [.int .u64 0], .int .u64⟩ := by kernel_rfl
theorem tkind_205 : tkind Tryz.prog 205 = .int .u64 := by kernel_rfl
theorem tsize_205 : tsize Tryz.prog 205 = 1 := by kernel_rfl
theorem tagg_205 : tagg Tryz.prog 205 = false := by kernel_rfl
theorem tyi_212 : tyi Tryz.prog 212 = some ⟨1, 8, false, [.int .u64 0], .int .u64⟩ := by kernel_rfl
theorem tkind_212 : tkind Tryz.prog 212 = .int .u64 := by kernel_rfl
theorem tsize_212 : tsize Tryz.prog 212 = 1 := by kernel_rfl
theorem tagg_212 : tagg Tryz.prog 212 = false := by kernel_rfl
theorem tyi_216 : tyi Tryz.prog 216 = some ⟨1, 8, false, [.nilptr], .other⟩ := by kernel_rfl
theorem tkind_216 : tkind Tryz.prog 216 = .other := by kernel_rfl
theorem tsize_216 : tsize Tryz.prog 216 = 1 := by kernel_rfl
theorem tagg_216 : tagg Tryz.prog 216 = false := by kernel_rfl
theorem slOf_3 : slOf Tryz.prog 3 = [] := by kernel_rfl
theorem slOf_9 : slOf Tryz.prog 9 = [] := by kernel_rfl
theorem slOf_22 : slOf Tryz.prog 22 = [some 1] := by kernel_rfl
theorem slOf_23 : slOf Tryz.prog 23 = [some 1] := by kernel_rfl
theorem slOf_24 : slOf Tryz.prog 24 = [some 2] := by kernel_rfl
theorem slOf_26 : slOf Tryz.prog 26 = [some 1, some 1, some 2, some 1] := by kernel_rfl
theorem slOf_47 : slOf Tryz.prog 47 = [some 1] := by kernel_rfl
theorem slOf_57 : slOf Tryz.prog 57 = [some 2] := by kernel_rfl
theorem slOf_60 : slOf Tryz.prog 60 = [some 3] := by kernel_rfl
theorem slOf_62 : slOf Tryz.prog 62 = [some 1, some 3] := by kernel_rfl
theorem slOf_69 : slOf Tryz.prog 69 = [] := by kernel_rfl
theorem slOf_75 : slOf Tryz.prog 75 = [] := by kernel_rfl
theorem slOf_87 : slOf Tryz.prog 87 = [] := by kernel_rfl
theorem slOf_98 : slOf Tryz.prog 98 = [] := by kernel_rfl
theorem slOf_101 : slOf Tryz.prog 101 = [] := by kernel_rfl
theorem slOf_133 : slOf Tryz.prog 133 = [] := by kernel_rfl
theorem slOf_136 : slOf Tryz.prog 136 = [some 1] := by kernel_rfl
theorem slOf_139 : slOf Tryz.prog 139 = [some 1] := by kernel_rfl
theorem slOf_155 : slOf Tryz.prog 155 = [] := by kernel_rfl
theorem slOf_165 : slOf Tryz.prog 165 = [] := by kernel_rfl
theorem slOf_177 : slOf Tryz.prog 177 = [] := by kernel_rfl
theorem slOf_188 : slOf Tryz.prog 188 = [] := by kernel_rfl
theorem slOf_203 : slOf Tryz.prog 203 = [] := by kernel_rfl
theorem slOf_205 : slOf Tryz.prog 205 = [] := by kernel_rfl
theorem slOf_212 : slOf Tryz.prog 212 = [] := by kernel_rfl
theorem slOf_216 : slOf Tryz.prog 216 = [] := by kernel_rfl
attribute [go_sem] slOf_3 slOf_9 slOf_22 slOf_23 slOf_24 slOf_26 slOf_47 slOf_57 slOf_60 slOf_62 slOf_69 slOf_75 slOf_87 slOf_98 slOf_101 slOf_133 slOf_136 slOf_139 slOf_155 slOf_165 slOf_177 slOf_188 slOf_203 slOf_205 slOf_212 slOf_216
attribute [go_sem] tyi_3 tkind_3 tsize_3 tagg_3 tyi_4 tkind_4 tsize_4 tagg_4 tyi_5 tkind_5 tsize_5 tagg_5 tyi_9 tkind_9 tsize_9 tagg_9 tyi_20 tkind_20 tsize_20 tagg_20 tyi_22 tkind_22 tsize_22 tagg_22 tyi_23 tkind_23 tsize_23 tagg_23 tyi_24 tkind_24 tsize_24 tagg_24 tyi_26 tkind_26 tsize_26 tagg_26 held_26 guard_26 tyi_47 tkind_47 tsize_47 tagg_47 tyi_57 tkind_57 tsize_57 tagg_57 tyi_60 tkind_60 tsize_60 tagg_60 tyi_62 tkind_62 tsize_62 tagg_62 held_62 guard_62 tyi_69 tkind_69 tsize_69 tagg_69 held_69 guard_69 tyi_71 tkind_71 tsize_71 tagg_71 held_71 guard_71 tyi_75 tkind_75 tsize_75 tagg_75 held_75 guard_75 tyi_87 tkind_87 tsize_87 tagg_87 tyi_94 tkind_94 tsize_94 tagg_94 held_94 guard_94 tyi_98 tkind_98 tsize_98 tagg_98 tyi_101 tkind_101 tsize_101 tagg_101 tyi_132 tkind_132 tsize_132 tagg_132 held_132 guard_132 tyi_133 tkind_133 tsize_133 tagg_133 tyi_136 tkind_136 tsize_136 tagg_136 tyi_139 tkind_139 tsize_139 tagg_139 tyi_155 tkind_155 tsize_155 tagg_155 held_155 guard_155 tyi_165 tkind_165 tsize_165 tagg_165 tyi_177 tkind_177 tsize_177 tagg_177 tyi_188 tkind_188 tsize_188 tagg_188 tyi_195 tkind_195 tsize_195 tagg_195 tyi_203 tkind_203 tsize_203 tagg_203 tyi_205 tkind_205 tsize_205 tagg_205 tyi_212 tkind_212 tsize_212 tagg_212 tyi_216 tkind_216 tsize_216 tagg_216
end Go.Proofs.YtndgpinhbffleaaGreat

