/- A reading of the loaded code over plain data, its soundness, and what functions answer by it (part 11; joined by program). No condition. -/
import Derived.Test.YtccoeoppjcegnaaKD10
set_option linter.all false
namespace Go.Proofs.Ytccoeoppjcegnaa
open Go
set_option maxRecDepth 100000
set_option maxHeartbeats 2000000
set_option linter.unusedSimpArgs false
set_option linter.unusedVariables false
structure Bl where
  ver : Int
  mbal : Int
  bal : Int
  inp : Int
  deriving Inhabited, DecidableEq
def eBl (x : Bl) : AV := .agg [.int .i64 x.ver, .int .i64 x.mbal, .int .i64 x.bal, .int .i64 x.inp]
theorem sharesL_eBl (l : List Bl) : AV.sharesL (l.map eBl) = false := sharesL_map (fun _ => by simp [eBl, go_sem]) l
attribute [go_sem] sharesL_eBl
structure Px where
  host : Int
  ver : Int
  phase : Int
  ballot : Int
  value : Int
  next : Int
  best : Int
  bestBal : Int
  deriving Inhabited, DecidableEq
def ePx (p : Px) : AV := .agg [.int .i64 p.host, .int .i64 p.ver, .int .i64 p.phase, .int .i64 p.ballot, .int .i64 p.value, .int .i64 p.next, .int .i64 p.best, .int .i64 p.bestBal]
def zBl : Bl := ⟨0, 0, 0, 0⟩
def blkOK (b : Bl) : Bool := inn b.ver 0 1000000 && inn b.mbal 0 1000000 && inn b.bal 0 b.mbal && isNum b.inp && (decide (0 < b.bal) || decide (b.inp = 0))
theorem blockOK_E (b : Bl) : E CX 179 [eBl b] [] = some { val := .bool (blkOK b) } := by
  refine E_fin Try.f179 _ an179 rfl rfl rfl Try.func179 rfl (by kernel_rfl) ?_
  have e1 := isVer_E b.ver
  have e2 := within_E b.mbal 0 1000000
  have e3 := within_E b.bal 0 b.mbal
  have e4 := isNumber_E b.inp
  unfold blkOK
  cases c1 : inn b.ver 0 1000000
  · rw [c1] at e1; simp [go_sem, eBl, e1]
  · rw [c1] at e1
    cases c2 : inn b.mbal 0 1000000
    · rw [c2] at e2; simp [go_sem, eBl, e1, e2]
    · rw [c2] at e2
      cases c3 : inn b.bal 0 b.mbal
      · rw [c3] at e3; simp [go_sem, eBl, e1, e2, e3]
      · rw [c3] at e3
        cases c4 : isNum b.inp
        · rw [c4] at e4; simp [go_sem, eBl, e1, e2, e3, e4]
        · rw [c4] at e4
          by_cases c5 : 0 < b.bal
          · simp [go_sem, eBl, e1, e2, e3, e4, c5]
          · simp [go_sem, eBl, e1, e2, e3, e4, c5]
            rfl
def blT (b : Bl) : Tx := sealF 5 [b.ver, b.mbal, b.bal, b.inp]
theorem blText_E (b : Bl) : E CX 126 [eBl b] [] = some { val := .str (blT b) } := by
  refine E_fin Try.f126 _ an126 rfl rfl rfl Try.func126 rfl (by kernel_rfl) ?_
  have e1 := seal_E 5 [b.ver, b.mbal, b.bal, b.inp] (by simp)
  simp at e1
  simp [go_sem, eBl, e1, blT]
def blF (t : Tx) : Option Bl := match openF t 5 with
  | some [a, b, c, d] => if blkOK ⟨a, b, c, d⟩ then some ⟨a, b, c, d⟩ else none
  | _ => none
def blV (o : Option Bl) : AV := match o with
  | some x => .tuple [eBl x, .bool true]
  | none => .tuple [eBl zBl, .bool false]
theorem len_ne4 (l : List Int) : ¬ ((l.length : Int) + 1 + 1 + 1 + 1 + 1 = 4) := by omega
theorem blockOf_E (t : Tx) (ht : t.length ≤ 1000000) : E CX 119 [.str t] [] = some { val := blV (blF t) } := by
  refine E_fin Try.f119 _ an119 rfl rfl rfl Try.func119 rfl (by kernel_rfl) ?_
  unfold blF
  have e1 := open_E t 5 ht
  rcases openV_cases t 5 with ⟨h2, h3 | ⟨l, h3⟩⟩ | ⟨l, h2, h3⟩
  · rw [h3] at e1
    simp [go_sem, blV, eBl, zBl, h2, e1]
  · rw [h3] at e1
    simp [go_sem, blV, eBl, zBl, h2, e1]
  · rw [h3] at e1
    match l, h2 with
    | [], h2 => simp [go_sem, blV, eBl, zBl, h2, e1]
    | [a], h2 => simp [go_sem, blV, eBl, zBl, h2, e1]
    | [a, b], h2 => simp [go_sem, blV, eBl, zBl, h2, e1]
    | [a, b, c], h2 => simp [go_sem, blV, eBl, zBl, h2, e1]
    | a :: b :: c :: d :: f :: l, h2 => simp [go_sem, blV, eBl, zBl, h2, e1, len_ne4 l]
    | [a, b, c, d], h2 =>
      have e2 := blockOK_E ⟨a, b, c, d⟩
      simp only [eBl] at e2
      cases h4 : blkOK ⟨a, b, c, d⟩
      · rw [h4] at e2
        simp [go_sem, blV, eBl, zBl, h2, e1, e2, h4]
      · rw [h4] at e2
        simp [go_sem, blV, eBl, zBl, h2, e1, e2, h4]
/-- A block as a version counts it. -/
def ofV (b : Bl) (v : Int) : Bl := if b.ver < v then ⟨v, 0, 0, 0⟩ else b
theorem of_E (b : Bl) (v : Int) : E CX 181 [eBl b, .int .i64 v] [] = some { val := eBl (ofV b v) } := by
  refine E_fin Try.f181 _ an181 rfl rfl rfl Try.func181 rfl (by kernel_rfl) ?_
  unfold ofV
  by_cases h : b.ver < v
  · simp [go_sem, eBl, h]
  · simp [go_sem, eBl, h]
def maxM (v : Int) : List Bl → Int → Int
  | [], n => n
  | b :: l, n => maxM v l (if n < (ofV b v).mbal then (ofV b v).mbal else n)
def nextB (h v : Int) (l : List Bl) : Int := ((maxM v l 0).tdiv 4 + 1) * 4 + h
theorem maxM_bound (v : Int) : ∀ (l : List Bl) (n : Int), 0 ≤ n ∧ n ≤ 1000000 → (∀ b ∈ l, 0 ≤ b.mbal ∧ b.mbal ≤ 1000000) → 0 ≤ maxM v l n ∧ maxM v l n ≤ 1000000 := by
  intro l
  induction l with
  | nil => intro n h _; exact h
  | cons b l ih =>
    intro n h hb
    refine ih _ ?_ fun x hx => hb x (by simp [hx])
    have hm : 0 ≤ (ofV b v).mbal ∧ (ofV b v).mbal ≤ 1000000 := by
      have := hb b (by simp)
      unfold ofV; split
      · simp
      · exact this
    split <;> omega
theorem nextBallot_E (h v : Int) (l : List Bl) (hh : 0 ≤ h ∧ h ≤ 3) (hl : l.length ≤ 1000) (hb : ∀ b ∈ l, 0 ≤ b.mbal ∧ b.mbal ≤ 1000000) : E CX 121 [.int .i64 h, .int .i64 v, .sl 4 (l.map eBl)] [] = some { val := .int .i64 (nextB h v l) } := by
  refine E_fin Try.f121 _ an121 rfl rfl rfl Try.func121 rfl (by kernel_rfl) ?_
  simp [go_sem]
  refine loop_for (fun X => fin CX _ _ X = _) l (fun n (a : Int) => True) (fun n a => ⟨SS [(0, .int .i64 h), (1, .int .i64 v), (7, .int .i64 a), (10, .sl 4 (l.map eBl)), (11, .int .i64 l.length), (12, .int .i64 n)], HE⟩)
    (fun r n a => (.exit 0, ⟨SS [(0, .int .i64 h), (7, .int .i64 (maxM v r a))], HE⟩)) 0 trivial ?_ ?_ ?_ ?_ ?_
  · simp [go_sem]
  · intro R n a b r hn hx hd hI hR
    have hx := hx hn
    have e1 := of_E b v
    have := hR (if a < (ofV b v).mbal then (ofV b v).mbal else a) trivial (by simp [maxM])
    simp only [eBl] at e1
    simp [go_sem] at this
    by_cases c : a < (ofV b v).mbal
    · simp [c] at this
      simp [go_sem, hn, hx, eBl, e1, c, wrap_id (n := (n : Int) + 1) (by omega)]
      exact this
    · simp [c] at this
      simp [go_sem, hn, hx, eBl, e1, c, wrap_id (n := (n : Int) + 1) (by omega)]
      exact this
  · intro a hI; simp [go_sem, maxM]
  · intro _; simp
  · have hm := maxM_bound v l 0 (by omega) hb
    have ht : 0 ≤ (maxM v l 0).tdiv 4 ∧ (maxM v l 0).tdiv 4 ≤ 1000000 := by rw [Int.tdiv_eq_ediv_of_nonneg (by omega)]; omega
    unfold nextB
    simp [go_sem, wrap_id (n := (maxM v l 0).tdiv 4) (by omega), wrap_id (n := (maxM v l 0).tdiv 4 + 1) (by omega), wrap_id (n := ((maxM v l 0).tdiv 4 + 1) * 4) (by omega), wrap_id (n := ((maxM v l 0).tdiv 4 + 1) * 4 + h) (by omega)]
end Go.Proofs.Ytccoeoppjcegnaa

namespace Go.Proofs.Ytccoeoppjcegnaa
open Go
set_option maxRecDepth 100000
set_option maxHeartbeats 4000000
set_option linter.unusedSimpArgs false
set_option linter.unusedVariables false
/-- Behind the last other host comes the next phase. -/
def finP (q : Px) : Px := if q.next < 4 then q else if q.phase = 4 then { q with phase := 5 } else { q with phase := 3, value := if 0 < q.bestBal then q.best else q.value }
def nx0 (p : Px) : Int := if p.next = p.host then p.next + 1 else p.next
def readB (p : Px) (b : Bl) : Px :=
  if p.ver < b.ver ∨ p.ballot < b.mbal then { p with next := nx0 p, phase := 6 }
  else finP { p with next := if nx0 p + 1 = p.host then nx0 p + 1 + 1 else nx0 p + 1, best := if p.phase ≠ 4 ∧ p.bestBal < b.bal then b.inp else p.best, bestBal := if p.phase ≠ 4 ∧ p.bestBal < b.bal then b.bal else p.bestBal }
def readP (p : Px) (bs : List Bl) : Px := if nx0 p < 4 then readB p (ofV (bs.getD (nx0 p).toNat zBl) p.ver) else finP { p with next := nx0 p }
def stopW (p : Px) (own : Bl) : Bool := decide (p.ver < own.ver) || decide (p.ballot < own.mbal) || (decide (p.phase = 3) == !decide (own.mbal = p.ballot))
def writeP (p : Px) (own : Bl) : Px × Bl :=
  if p.phase = 3 then ({ p with phase := 4, next := 0 }, ⟨own.ver, p.ballot, p.ballot, p.value⟩)
  else ({ p with phase := 2, next := 0, best := own.inp, bestBal := own.bal }, ⟨own.ver, p.ballot, own.bal, own.inp⟩)
def ownB (p : Px) (bs : List Bl) : Bl := ofV (bs.getD p.host.toNat zBl) p.ver
def stepP (p : Px) (bs : List Bl) : Px × List Bl :=
  if p.phase = 1 ∨ p.phase = 3 then
    if stopW p (ownB p bs) then ({ p with phase := 6 }, bs) else ((writeP p (ownB p bs)).1, bs.set p.host.toNat (writeP p (ownB p bs)).2)
  else (readP p bs, bs)
structure PxIn (p : Px) (bs : List Bl) : Prop where
  len : bs.length = 4
  host : 0 ≤ p.host ∧ p.host ≤ 3
  next : 0 ≤ p.next ∧ p.next ≤ 100
theorem getD_at {α : Type} {l : List α} {n : Nat} (h : n < l.length) (z : α) : l.getD n z = l[n] := by simp [h]
theorem step_write (p : Px) (bs : List Bl) (g : PxIn p bs) (hw : p.phase = 1 ∨ p.phase = 3) : E CX 125 [ePx p, .ref [1] 0 4] [([1], ⟨false, 138, 4, bs.map eBl⟩)] = some { val := ePx (stepP p bs).1, io := [⟨false, 138, 4, (stepP p bs).2.map eBl⟩] } := by
  refine E_fin Try.f125 _ an125 rfl rfl rfl Try.func125 rfl (by kernel_rfl) ?_
  have g1 := g.len; have g2 := g.host; have g3 := g.next
  have hlt : p.host.toNat < bs.length := by omega
  have hlt4 : p.host.toNat < 4 := by omega
  have e1 := of_E bs[p.host.toNat] p.ver
  unfold stepP
  rw [if_pos hw]
  have ho : ownB p bs = ofV bs[p.host.toNat] p.ver := by unfold ownB; rw [getD_at hlt]
  rw [ho]
  unfold stopW writeP
  generalize ofV bs[p.host.toNat] p.ver = o at *
  have hset : ∀ x : Bl, (bs.set p.host.toNat x).map eBl = (bs.map eBl).set p.host.toNat (eBl x) := fun x => List.map_set
  obtain ⟨ov, om, ob, oi⟩ := o
  simp only [eBl] at e1
  by_cases a1 : p.ver < ov
  · rcases hw with c | c
    · simp [go_sem, ePx, eBl, c, g1, g2.1, g2.2, hlt, hlt4, e1, a1]
    · simp [go_sem, ePx, eBl, c, g1, g2.1, g2.2, hlt, hlt4, e1, a1]
  · by_cases a2 : p.ballot < om
    · rcases hw with c | c
      · simp [go_sem, ePx, eBl, c, g1, g2.1, g2.2, hlt, hlt4, e1, a1, a2]
      · simp [go_sem, ePx, eBl, c, g1, g2.1, g2.2, hlt, hlt4, e1, a1, a2]
    · by_cases a3 : om = p.ballot
      · rcases hw with c | c
        · simp [go_sem, ePx, eBl, c, g1, g2.1, g2.2, hlt, hlt4, e1, a1, a2, a3]
        · simp [go_sem, ePx, eBl, c, g1, g2.1, g2.2, hlt, hlt4, e1, a1, a2, a3, hset]
      · have a3' : (om == p.ballot) = false := by simp [a3]
        rcases hw with c | c
        · simp [go_sem, ePx, eBl, c, g1, g2.1, g2.2, hlt, hlt4, e1, a1, a2, a3, a3', hset]
        · simp [go_sem, ePx, eBl, c, g1, g2.1, g2.2, hlt, hlt4, e1, a1, a2, a3, a3']
theorem step_read (p : Px) (bs : List Bl) (g : PxIn p bs) (hw : ¬ (p.phase = 1 ∨ p.phase = 3)) : E CX 125 [ePx p, .ref [1] 0 4] [([1], ⟨false, 138, 4, bs.map eBl⟩)] = some { val := ePx (stepP p bs).1, io := [⟨false, 138, 4, (stepP p bs).2.map eBl⟩] } := by
  have g1 := g.len; have g2 := g.host; have g3 := g.next
  simp only [not_or] at hw
  unfold stepP
  rw [if_neg (by simp [hw])]
  have w1 := wrap_id (n := p.next + 1) (by omega)
  have w2 := wrap_id (n := p.next + 1 + 1) (by omega)
  have w3 := wrap_id (n := p.next + 1 + 1 + 1) (by omega)
  have w4 := wrap_id (n := p.host + 1) (by omega)
  have w7 := wrap_id (n := p.host) (by omega)
  have w5 := wrap_id (n := p.host + 1 + 1) (by omega)
  have w6 := wrap_id (n := p.host + 1 + 1 + 1) (by omega)
  by_cases hn : nx0 p < 4
  · have hn0 : 0 ≤ nx0 p := by unfold nx0; split <;> omega
    have hlt : (nx0 p).toNat < bs.length := by omega
    have hlt4 : (nx0 p).toNat < 4 := by omega
    have e1 := of_E bs[(nx0 p).toNat] p.ver
    have hr : readP p bs = readB p (ofV bs[(nx0 p).toNat] p.ver) := by unfold readP; rw [if_pos hn, getD_at hlt]
    rw [hr]
    unfold readB finP
    generalize ofV bs[(nx0 p).toNat] p.ver = o at *
    obtain ⟨ov, om, ob, oi⟩ := o
    simp only [eBl] at e1
    by_cases c0 : p.next = p.host
    · have hx : nx0 p = p.host + 1 := by unfold nx0; rw [if_pos c0, c0]
      simp only [hx] at hn hn0 hlt hlt4 e1 ⊢
      have c1 : ¬ (p.host + 1 + 1 = p.host) := by omega
      by_cases a1 : p.ver < ov
      · refine E_fin Try.f125 _ an125 rfl rfl rfl Try.func125 rfl (by kernel_rfl) ?_
        simp [go_sem, ePx, eBl, hw, c0, g1, g2.1, hlt, hlt4, hn, hn0, e1, a1, w4, w5]
      · by_cases a2 : p.ballot < om
        · refine E_fin Try.f125 _ an125 rfl rfl rfl Try.func125 rfl (by kernel_rfl) ?_
          simp [go_sem, ePx, eBl, hw, c0, g1, g2.1, hlt, hlt4, hn, hn0, e1, a1, a2, w4, w5]
        · by_cases a3 : p.phase = 4
          · by_cases a5 : p.host + 1 + 1 < 4
            · refine E_fin Try.f125 _ an125 rfl rfl rfl Try.func125 rfl (by kernel_rfl) ?_
              simp [go_sem, ePx, eBl, hw, c0, c1, g1, g2.1, hlt, hlt4, hn, hn0, e1, a1, a2, a3, a5, w4, w5]
            · refine E_fin Try.f125 _ an125 rfl rfl rfl Try.func125 rfl (by kernel_rfl) ?_
              simp [go_sem, ePx, eBl, hw, c0, c1, g1, g2.1, hlt, hlt4, hn, hn0, e1, a1, a2, a3, a5, w4, w5]
          · by_cases a4 : p.bestBal < ob
            · by_cases a5 : p.host + 1 + 1 < 4
              · refine E_fin Try.f125 _ an125 rfl rfl rfl Try.func125 rfl (by kernel_rfl) ?_
                simp [go_sem, ePx, eBl, hw, c0, c1, g1, g2.1, hlt, hlt4, hn, hn0, e1, a1, a2, a3, a4, a5, w4, w5]
              · by_cases a6 : 0 < ob
                · refine E_fin Try.f125 _ an125 rfl rfl rfl Try.func125 rfl (by kernel_rfl) ?_
                  simp [go_sem, ePx, eBl, hw, c0, c1, g1, g2.1, hlt, hlt4, hn, hn0, e1, a1, a2, a3, a4, a5, a6, w4, w5]
                · refine E_fin Try.f125 _ an125 rfl rfl rfl Try.func125 rfl (by kernel_rfl) ?_
                  simp [go_sem, ePx, eBl, hw, c0, c1, g1, g2.1, hlt, hlt4, hn, hn0, e1, a1, a2, a3, a4, a5, a6, w4, w5]
            · by_cases a5 : p.host + 1 + 1 < 4
              · refine E_fin Try.f125 _ an125 rfl rfl rfl Try.func125 rfl (by kernel_rfl) ?_
                simp [go_sem, ePx, eBl, hw, c0, c1, g1, g2.1, hlt, hlt4, hn, hn0, e1, a1, a2, a3, a4, a5, w4, w5]
              · by_cases a6 : 0 < p.bestBal
                · refine E_fin Try.f125 _ an125 rfl rfl rfl Try.func125 rfl (by kernel_rfl) ?_
                  simp [go_sem, ePx, eBl, hw, c0, c1, g1, g2.1, hlt, hlt4, hn, hn0, e1, a1, a2, a3, a4, a5, a6, w4, w5]
                · refine E_fin Try.f125 _ an125 rfl rfl rfl Try.func125 rfl (by kernel_rfl) ?_
                  simp [go_sem, ePx, eBl, hw, c0, c1, g1, g2.1, hlt, hlt4, hn, hn0, e1, a1, a2, a3, a4, a5, a6, w4, w5]
    · have hx : nx0 p = p.next := by unfold nx0; rw [if_neg c0]
      simp only [hx] at hn hn0 hlt hlt4 e1 ⊢
      by_cases a1 : p.ver < ov
      · refine E_fin Try.f125 _ an125 rfl rfl rfl Try.func125 rfl (by kernel_rfl) ?_
        simp [go_sem, ePx, eBl, hw, c0, g1, g2.1, hlt, hlt4, hn, hn0, e1, a1, w1, w2]
      · by_cases a2 : p.ballot < om
        · refine E_fin Try.f125 _ an125 rfl rfl rfl Try.func125 rfl (by kernel_rfl) ?_
          simp [go_sem, ePx, eBl, hw, c0, g1, g2.1, hlt, hlt4, hn, hn0, e1, a1, a2, w1, w2]
        · by_cases c1 : p.next + 1 = p.host
          · by_cases a3 : p.phase = 4
            · by_cases a5 : p.host + 1 < 4
              · refine E_fin Try.f125 _ an125 rfl rfl rfl Try.func125 rfl (by kernel_rfl) ?_
                simp [go_sem, ePx, eBl, hw, c0, c1, g1, g2.1, hlt, hlt4, hn, hn0, e1, a1, a2, a3, a5, w1, w2, w4, w5, w7]
              · refine E_fin Try.f125 _ an125 rfl rfl rfl Try.func125 rfl (by kernel_rfl) ?_
                simp [go_sem, ePx, eBl, hw, c0, c1, g1, g2.1, hlt, hlt4, hn, hn0, e1, a1, a2, a3, a5, w1, w2, w4, w5, w7]
            · by_cases a4 : p.bestBal < ob
              · by_cases a5 : p.host + 1 < 4
                · refine E_fin Try.f125 _ an125 rfl rfl rfl Try.func125 rfl (by kernel_rfl) ?_
                  simp [go_sem, ePx, eBl, hw, c0, c1, g1, g2.1, hlt, hlt4, hn, hn0, e1, a1, a2, a3, a4, a5, w1, w2, w4, w5, w7]
                · by_cases a6 : 0 < ob
                  · refine E_fin Try.f125 _ an125 rfl rfl rfl Try.func125 rfl (by kernel_rfl) ?_
                    simp [go_sem, ePx, eBl, hw, c0, c1, g1, g2.1, hlt, hlt4, hn, hn0, e1, a1, a2, a3, a4, a5, a6, w1, w2, w4, w5, w7]
                  · refine E_fin Try.f125 _ an125 rfl rfl rfl Try.func125 rfl (by kernel_rfl) ?_
                    simp [go_sem, ePx, eBl, hw, c0, c1, g1, g2.1, hlt, hlt4, hn, hn0, e1, a1, a2, a3, a4, a5, a6, w1, w2, w4, w5, w7]
              · by_cases a5 : p.host + 1 < 4
                · refine E_fin Try.f125 _ an125 rfl rfl rfl Try.func125 rfl (by kernel_rfl) ?_
                  simp [go_sem, ePx, eBl, hw, c0, c1, g1, g2.1, hlt, hlt4, hn, hn0, e1, a1, a2, a3, a4, a5, w1, w2, w4, w5, w7]
                · by_cases a6 : 0 < p.bestBal
                  · refine E_fin Try.f125 _ an125 rfl rfl rfl Try.func125 rfl (by kernel_rfl) ?_
                    simp [go_sem, ePx, eBl, hw, c0, c1, g1, g2.1, hlt, hlt4, hn, hn0, e1, a1, a2, a3, a4, a5, a6, w1, w2, w4, w5, w7]
                  · refine E_fin Try.f125 _ an125 rfl rfl rfl Try.func125 rfl (by kernel_rfl) ?_
                    simp [go_sem, ePx, eBl, hw, c0, c1, g1, g2.1, hlt, hlt4, hn, hn0, e1, a1, a2, a3, a4, a5, a6, w1, w2, w4, w5, w7]
          · by_cases a3 : p.phase = 4
            · by_cases a5 : p.next + 1 < 4
              · refine E_fin Try.f125 _ an125 rfl rfl rfl Try.func125 rfl (by kernel_rfl) ?_
                simp [go_sem, ePx, eBl, hw, c0, c1, g1, g2.1, hlt, hlt4, hn, hn0, e1, a1, a2, a3, a5, w1, w2]
              · refine E_fin Try.f125 _ an125 rfl rfl rfl Try.func125 rfl (by kernel_rfl) ?_
                simp [go_sem, ePx, eBl, hw, c0, c1, g1, g2.1, hlt, hlt4, hn, hn0, e1, a1, a2, a3, a5, w1, w2]
            · by_cases a4 : p.bestBal < ob
              · by_cases a5 : p.next + 1 < 4
                · refine E_fin Try.f125 _ an125 rfl rfl rfl Try.func125 rfl (by kernel_rfl) ?_
                  simp [go_sem, ePx, eBl, hw, c0, c1, g1, g2.1, hlt, hlt4, hn, hn0, e1, a1, a2, a3, a4, a5, w1, w2]
                · by_cases a6 : 0 < ob
                  · refine E_fin Try.f125 _ an125 rfl rfl rfl Try.func125 rfl (by kernel_rfl) ?_
                    simp [go_sem, ePx, eBl, hw, c0, c1, g1, g2.1, hlt, hlt4, hn, hn0, e1, a1, a2, a3, a4, a5, a6, w1, w2]
                  · refine E_fin Try.f125 _ an125 rfl rfl rfl Try.func125 rfl (by kernel_rfl) ?_
                    simp [go_sem, ePx, eBl, hw, c0, c1, g1, g2.1, hlt, hlt4, hn, hn0, e1, a1, a2, a3, a4, a5, a6, w1, w2]
              · by_cases a5 : p.next + 1 < 4
                · refine E_fin Try.f125 _ an125 rfl rfl rfl Try.func125 rfl (by kernel_rfl) ?_
                  simp [go_sem, ePx, eBl, hw, c0, c1, g1, g2.1, hlt, hlt4, hn, hn0, e1, a1, a2, a3, a4, a5, w1, w2]
                · by_cases a6 : 0 < p.bestBal
                  · refine E_fin Try.f125 _ an125 rfl rfl rfl Try.func125 rfl (by kernel_rfl) ?_
                    simp [go_sem, ePx, eBl, hw, c0, c1, g1, g2.1, hlt, hlt4, hn, hn0, e1, a1, a2, a3, a4, a5, a6, w1, w2]
                  · refine E_fin Try.f125 _ an125 rfl rfl rfl Try.func125 rfl (by kernel_rfl) ?_
                    simp [go_sem, ePx, eBl, hw, c0, c1, g1, g2.1, hlt, hlt4, hn, hn0, e1, a1, a2, a3, a4, a5, a6, w1, w2]
  · have hr : readP p bs = finP { p with next := nx0 p } := by unfold readP; rw [if_neg hn]
    rw [hr]
    unfold finP
    by_cases c0 : p.next = p.host
    · have hx : nx0 p = p.host + 1 := by unfold nx0; rw [if_pos c0, c0]
      simp only [hx] at hn ⊢
      by_cases a3 : p.phase = 4
      · refine E_fin Try.f125 _ an125 rfl rfl rfl Try.func125 rfl (by kernel_rfl) ?_
        simp [go_sem, ePx, eBl, hw, c0, hn, a3, w4]
      · by_cases a6 : 0 < p.bestBal
        · refine E_fin Try.f125 _ an125 rfl rfl rfl Try.func125 rfl (by kernel_rfl) ?_
          simp [go_sem, ePx, eBl, hw, c0, hn, a3, a6, w4]
        · refine E_fin Try.f125 _ an125 rfl rfl rfl Try.func125 rfl (by kernel_rfl) ?_
          simp [go_sem, ePx, eBl, hw, c0, hn, a3, a6, w4]
    · have hx : nx0 p = p.next := by unfold nx0; rw [if_neg c0]
      simp only [hx] at hn ⊢
      by_cases a3 : p.phase = 4
      · refine E_fin Try.f125 _ an125 rfl rfl rfl Try.func125 rfl (by kernel_rfl) ?_
        simp [go_sem, ePx, eBl, hw, c0, hn, a3]
      · by_cases a6 : 0 < p.bestBal
        · refine E_fin Try.f125 _ an125 rfl rfl rfl Try.func125 rfl (by kernel_rfl) ?_
          simp [go_sem, ePx, eBl, hw, c0, hn, a3, a6]
        · refine E_fin Try.f125 _ an125 rfl rfl rfl Try.func125 rfl (by kernel_rfl) ?_
          simp [go_sem, ePx, eBl, hw, c0, hn, a3, a6]
theorem step_E (p : Px) (bs : List Bl) (g : PxIn p bs) : E CX 125 [ePx p, .ref [1] 0 4] [([1], ⟨false, 138, 4, bs.map eBl⟩)] = some { val := ePx (stepP p bs).1, io := [⟨false, 138, 4, (stepP p bs).2.map eBl⟩] } := by
  by_cases hw : p.phase = 1 ∨ p.phase = 3
  · exact step_write p bs g hw
  · exact step_read p bs g hw
end Go.Proofs.Ytccoeoppjcegnaa

namespace Go.Proofs.Ytccoeoppjcegnaa
open Go
set_option maxRecDepth 100000
set_option linter.unusedSimpArgs false
set_option linter.unusedVariables false
def E64 : List Tx := List.replicate 64 []
theorem E64_get (n : Nat) : E64.getD n [] = [] := by
  unfold E64
  rw [List.getD_eq_getElem?_getD, List.getElem?_replicate]
  split <;> rfl
def d64 : Disk := ⟨E64, []⟩
theorem d64_ok : diskOK d64 = true := by decide
theorem updT_length (u : Update) : (updT u).length = 8 + u.data.length := by simp [updT, sealF, packF_length]; omega
theorem jmF_ok (h : Int) (hh : 0 ≤ h ∧ h ≤ 3) : ∀ (l : List Update) (i : Nat), i + l.length ≤ 5 → (∀ u ∈ l, u.data.length ≤ 8) → ∀ m ∈ jmF h l i, moveOK m = true ∧ m.data.length ≤ 80 := by
  intro l
  induction l with
  | nil => intro i _ _ m hm; cases hm
  | cons u l ih =>
    intro i hi hd m hm
    simp only [List.length_cons] at hi
    simp only [jmF, List.mem_cons] at hm
    rcases hm with rfl | hm
    · have := updT_length u
      have := hd u (by simp)
      simp [moveOK, inn]
      omega
    · exact ih _ (by omega) (fun x hx => hd x (by simp [hx])) m hm
theorem plan0_ok (h q : Int) (l : List Update) (hh : 0 ≤ h ∧ h ≤ 3) (hl : l.length ≤ 4) (hu : ∀ x ∈ l, 9 ≤ x.at_ ∧ x.at_ ≤ 28 ∧ x.data.length ≤ 8) : ∀ m ∈ plan0 h q l, moveOK m = true ∧ m.data.length ≤ 80 := by
  have s7 : ∀ a b : Int, (sealF 7 [a, b]).length = 12 := by intro a b; simp [sealF, packF_length]
  intro m hm
  unfold plan0 at hm
  simp only [List.mem_append, List.mem_cons, List.mem_nil_iff, or_false, List.mem_map] at hm
  rcases hm with (hm | rfl | rfl | rfl) | ⟨u, hu', rfl⟩ | rfl | rfl
  · exact jmF_ok h hh l 0 (by omega) (fun u h => (hu u h).2.2) m hm
  · exact ⟨by decide, by decide⟩
  · have := s7 l.length q; simp [moveOK, inn]; omega
  · exact ⟨by decide, by decide⟩
  · obtain ⟨a1, a2, a3⟩ := hu u hu'
    refine ⟨?_, show u.data.length ≤ 80 by omega⟩
    have i1 : inn u.at_ 0 63 = true := by simp [inn]; omega
    have i2 : decide (u.data.length ≤ 80) = true := by simp; omega
    show (if (1 : Int) = 2 then _ else (decide ((1 : Int) = 1) && inn u.at_ 0 63 && decide (u.data.length ≤ 80))) = true
    rw [if_neg (by omega), i1, i2]
    rfl
  · exact ⟨by decide, by decide⟩
  · have := s7 0 q; simp [moveOK, inn]; omega
def d1 (h q : Int) (l : List Update) : Disk := ((planF h q l).foldl (mvT h) (d64, [])).1
theorem d1_eq (h q : Int) (l : List Update) (hh : 0 ≤ h ∧ h ≤ 3) (hl : l.length ≤ 4) : d1 h q l = if l = [] then d64 else ⟨(plan0 h q l).foldl wr E64, []⟩ := by
  unfold d1
  by_cases hne : l = []
  · subst hne; rfl
  · rw [if_neg hne, planF_eq h q l hne]
    exact moves_end h (plan0 h q l) E64 (by simp [plan0, jmF_length]; omega)
theorem d1_ok (h q : Int) (l : List Update) (hh : 0 ≤ h ∧ h ≤ 3) (hq : 0 ≤ q ∧ q ≤ 2147483647) (hl : l.length ≤ 4) (hu : ∀ x ∈ l, 9 ≤ x.at_ ∧ x.at_ ≤ 28 ∧ x.data.length ≤ 8) :
    diskOK (d1 h q l) = true ∧ (d1 h q l).ss.length = 64 ∧ (d1 h q l).ps = [] ∧ (d1 h q l).ss.take 39 = (l.foldl setU E64).take 39 ∧ movesCode d64 h (planF h q l) = 0 ∧ (planF h q l).length ≤ 20 ∧ (∀ m ∈ planF h q l, m.kind ≠ 2 → 0 ≤ m.at_ ∧ m.at_.toNat < 64) ∧
    ∀ h' : Int, 0 ≤ h' ∧ h' ≤ 3 → ∃ q' : Int, jAns (d1 h q l) h' h = ([], q', 0) := by
  have hask : askC d64 h = 0 := by
    have : inn h 0 3 = true := by simp [inn]; omega
    simp [askC, d64_ok, this]
  have key : ∀ p : List Move, p.length ≤ 20 → (∀ m ∈ p, moveOK m = true) → movesCode d64 h p = 0 ∧ ∀ m ∈ p, m.kind ≠ 2 → 0 ≤ m.at_ ∧ m.at_.toNat < 64 := by
    intro p hp hm
    have ha : p.all moveOK = true := List.all_eq_true.2 hm
    refine ⟨by simp [movesCode, firstP, hask, ha]; omega, fun m h1 h2 => ?_⟩
    have := hm m h1
    simp [moveOK, h2, inn] at this
    omega
  rw [d1_eq h q l hh hl]
  by_cases hne : l = []
  · subst hne
    rw [if_pos rfl]
    obtain ⟨k1, k2⟩ := key [] (by simp) (by simp)
    refine ⟨d64_ok, by decide, rfl, rfl, k1, by simp [planF], by simp [planF], fun h' hh' => ⟨0, ?_⟩⟩
    have hj : jcode d64 h' h = 0 := by
      have i1 : inn h' 0 3 = true := by simp [inn]; omega
      have i2 : inn h 0 3 = true := by simp [inn]; omega
      simp [jcode, d64_ok, i1, i2]
    have hr : rdL d64.ss d64.ps h' (39 + 6 * h) = [] := by
      show E64.getD (39 + 6 * h).toNat [] = []
      exact E64_get _
    simp [jAns, hj, waitF, hr]
  · rw [if_neg hne]
    have hp := plan0_ok h q l hh hl hu
    have hlen : (plan0 h q l).length ≤ 19 := by simp [plan0, jmF_length]; omega
    have h64 : ((plan0 h q l).foldl wr E64).length = 64 := by rw [wr_length]; decide
    have hsm := wr_small (plan0 h q l) E64 (fun m hm => (hp m hm).2) (by intro s hs; simp [E64] at hs; simp [hs])
    have hok : diskOK ⟨(plan0 h q l).foldl wr E64, []⟩ = true := by
      simp only [diskOK, h64]
      simp
      exact hsm
    obtain ⟨k1, k2⟩ := key (planF h q l) (by rw [planF_eq h q l hne]; simp; omega) (by
      intro m hm
      rw [planF_eq h q l hne] at hm
      simp only [List.mem_append, List.mem_singleton] at hm
      rcases hm with hm | rfl
      · exact (hp m hm).1
      · decide)
    refine ⟨hok, h64, rfl, plan_take h q l E64 hh.1, k1, by rw [planF_eq h q l hne]; simp; omega, k2, fun h' hh' => ⟨q, ?_⟩⟩
    have hj : jcode ⟨(plan0 h q l).foldl wr E64, []⟩ h' h = 0 := by
      have i1 : inn h' 0 3 = true := by simp [inn]; omega
      have i2 : inn h 0 3 = true := by simp [inn]; omega
      simp [jcode, hok, i1, i2]
    have hr : rdL ((plan0 h q l).foldl wr E64) [] h' (39 + 6 * h) = sealF 7 [0, q] := by
      have := plan_head h q l E64 hh (by decide)
      simpa [rdL, rdN] using this
    have ho := open_seal (k := 7) (l := [0, q]) (by decide) (by simp [intsOK, isNum, inn]; omega)
    have hne' : sealF 7 [0, q] ≠ [] := by simp [sealF]
    simp [jAns, hj, waitF, hr, ho, hne', updsR]
end Go.Proofs.Ytccoeoppjcegnaa

namespace Go.Proofs.Ytccoeoppjcegnaa
open Go
set_option maxRecDepth 100000
set_option linter.unusedSimpArgs false
set_option linter.unusedVariables false
/-- Of moves and of the first writes that are not sure, some first moves are done. -/
theorem moves_cut (h : Int) (ss0 : List Tx) : ∀ (l : List Move), l.length ≤ 300 →
    (∀ x ∈ (l.foldl (mvT h) (⟨ss0, []⟩, [])).1.ps, x.host = h) ∧ (l.foldl (mvT h) (⟨ss0, []⟩, [])).1.ps.length ≤ l.length ∧
    ∀ j, ∃ k, k ≤ l.length ∧ ((l.foldl (mvT h) (⟨ss0, []⟩, [])).1.ps.take j).foldl landW (l.foldl (mvT h) (⟨ss0, []⟩, [])).1.ss = (l.take k).foldl wr ss0 := by
  intro l hl
  obtain ⟨i1, i2, i3⟩ := moves_flat h l ⟨ss0, []⟩ [] (by simp) (by simp; omega)
  refine ⟨i1, by simpa using i2, ?_⟩
  clear i1 i2 i3
  generalize hn : l.length = n
  rw [hn] at hl
  induction n generalizing l with
  | zero =>
    intro j
    obtain rfl : l = [] := List.length_eq_zero_iff.1 hn
    exact ⟨0, by simp, by simp⟩
  | succ n ih =>
    obtain ⟨l, m, rfl⟩ : ∃ L b, l = L ++ [b] := by
      rcases List.eq_nil_or_concat l with rfl | ⟨L, b, h⟩
      · simp at hn
      · exact ⟨L, b, by simpa using h⟩
    have hn' : l.length = n := by simpa using hn
    subst hn'
    have ih := ih l (by omega) rfl
    have hl' : l.length ≤ 300 := by omega
    obtain ⟨i1, i2, i3⟩ := moves_flat h l ⟨ss0, []⟩ [] (by simp) (by simp; omega)
    intro j
    rw [List.foldl_append]
    simp only [List.length_nil, Nat.zero_add] at i2
    generalize l.foldl (mvT h) (⟨ss0, []⟩, []) = r at *
    obtain ⟨⟨ss, ps⟩, tl⟩ := r
    simp only at i1 i2 i3 ih ⊢
    simp only [List.foldl_cons, List.foldl_nil]
    by_cases hm : m.kind = 2
    · obtain ⟨q1, q2⟩ := landL_every h ps 400 ss i1 (by omega)
      refine ⟨l.length, by omega, ?_⟩
      simp only [mvT, hm, if_true, settleD, q1, q2]
      simp [i3]
    · simp only [mvT, hm, if_false]
      by_cases hj : j ≤ ps.length
      · obtain ⟨k, hk, e⟩ := ih j
        refine ⟨k, by omega, ?_⟩
        rw [List.take_append_of_le_length hj, List.take_append_of_le_length hk]
        exact e
      · refine ⟨l.length + 1, by omega, ?_⟩
        rw [List.take_of_length_le (by simp; omega), List.take_of_length_le (by simp), List.foldl_append, List.foldl_append, i3]
        simp [landW, wr, hm]
/-- What is left of a host that is lost. -/
theorem landL_lost (h : Int) : ∀ (ps : List Io) (k : Int) (ss : List Tx), (∀ x ∈ ps, x.host = h) → 0 ≤ k →
    (landL h true ps k ss).1 = [] ∧ (landL h true ps k ss).2.2 = (ps.take k.toNat).foldl landW ss := by
  intro ps
  induction ps with
  | nil => intro k ss _ _; exact ⟨rfl, by simp [landL]⟩
  | cons x ps ih =>
    intro k ss hx hk
    have h1 : x.host = h := hx x (by simp)
    have g : goes h k true x = true := by simp [goes, h1]
    unfold landL
    rw [if_pos g]
    by_cases h2 : 0 < k
    · obtain ⟨i1, i2⟩ := ih (kOf h k x) (sOf h k ss x) (fun y hy => hx y (by simp [hy])) (by simp [kOf, h1, h2]; omega)
      refine ⟨i1, ?_⟩
      rw [i2]
      obtain ⟨n, hn⟩ : ∃ n : Nat, k.toNat = n + 1 := ⟨k.toNat - 1, by omega⟩
      have : (kOf h k x).toNat = n := by simp [kOf, h1, h2]; omega
      rw [this, hn, List.take_succ_cons]
      simp [sOf, h1, h2, landW]
    · have hk0 : k = 0 := by omega
      subst hk0
      obtain ⟨i1, i2⟩ := ih (kOf h 0 x) (sOf h 0 ss x) (fun y hy => hx y (by simp [hy])) (by simp [kOf])
      refine ⟨i1, ?_⟩
      rw [i2]
      simp [kOf, sOf]
/-- A disk behind some of a plan's moves and a crash. -/
theorem crash (h : Int) (ss0 : List Tx) (l : List Move) (hl : l.length ≤ 300) (keep : Int) (hk : 0 ≤ keep) : ∃ k, k ≤ l.length ∧ settleD (l.foldl (mvT h) (⟨ss0, []⟩, [])).1 h keep true = ⟨(l.take k).foldl wr ss0, []⟩ := by
  obtain ⟨i1, i2, i3⟩ := moves_cut h ss0 l hl
  generalize l.foldl (mvT h) (⟨ss0, []⟩, []) = r at *
  obtain ⟨q1, q2⟩ := landL_lost h r.1.ps keep r.1.ss i1 hk
  obtain ⟨k, hk, e⟩ := i3 keep.toNat
  exact ⟨k, hk, by simp only [settleD, q1, q2, e]⟩
/-! Sectors behind updates. -/
/-- What stands at a place behind updates. -/
def lastU (p : Nat) : List Update → Option Tx
  | [] => none
  | u :: l => match lastU p l with
    | some t => some t
    | none => if u.at_.toNat = p then some u.data else none
theorem setU_get (p : Nat) : ∀ (l : List Update) (ss : List Tx), p < ss.length → (l.foldl setU ss)[p]? = some ((lastU p l).getD (ss.getD p [])) := by
  intro l
  induction l with
  | nil => intro ss hp; simp [lastU, hp]
  | cons u l ih =>
    intro ss hp
    simp only [List.foldl_cons]
    rw [ih _ (by simpa [setU] using hp)]
    simp only [lastU]
    cases hq : lastU p l with
    | some t => simp
    | none =>
      by_cases c : u.at_.toNat = p
      · subst c; simp [setU, hp]
      · simp [setU, c, List.getElem?_set]
theorem lastU_take (p : Nat) : ∀ (l : List Update) (j : Nat), lastU p l = none → lastU p (l.take j) = none := by
  intro l
  induction l with
  | nil => intro j h; simpa using h
  | cons u l ih =>
    intro j h
    cases j with
    | zero => rfl
    | succ j =>
      simp only [lastU] at h
      cases hq : lastU p l with
      | some t => rw [hq] at h; cases h
      | none =>
        rw [hq] at h
        simp only [List.take_succ_cons, lastU]
        rw [ih j hq]
        exact h
theorem setU_len : ∀ (l : List Update) (ss : List Tx), (l.foldl setU ss).length = ss.length := by
  intro l
  induction l with
  | nil => intro ss; rfl
  | cons u l ih => intro ss; simp only [List.foldl_cons, ih]; simp [setU]
/-- Some of the updates, then all: the same as all. -/
theorem setU_again (l : List Update) (j : Nat) (ss : List Tx) : l.foldl setU ((l.take j).foldl setU ss) = l.foldl setU ss := by
  apply List.ext_getElem?
  intro p
  by_cases hp : p < ss.length
  · rw [setU_get p l _ (by rw [setU_len]; exact hp), setU_get p l ss hp]
    cases hq : lastU p l with
    | some t => rfl
    | none =>
      have := setU_get p (l.take j) ss hp
      rw [lastU_take p l j hq] at this
      simp only [Option.getD_none] at this ⊢
      rw [List.getD_eq_getElem?_getD, this]
      rfl
  · rw [List.getElem?_eq_none (by simp only [setU_len]; omega), List.getElem?_eq_none (by rw [setU_len]; omega)]
end Go.Proofs.Ytccoeoppjcegnaa

namespace Go.Proofs.Ytccoeoppjcegnaa
open Go
set_option maxRecDepth 100000
set_option linter.unusedSimpArgs false
set_option linter.unusedVariables false
/-- What the last write at a place is. -/
def lastM (p : Nat) : List Move → Option Tx
  | [] => none
  | m :: l => match lastM p l with
    | some t => some t
    | none => if m.kind ≠ 2 ∧ m.at_.toNat = p then some m.data else none
theorem lastM_app (p : Nat) : ∀ a b : List Move, lastM p (a ++ b) = match lastM p b with
    | some t => some t
    | none => lastM p a := by
  intro a b
  induction a with
  | nil => simp only [List.nil_append, lastM]; cases lastM p b <;> rfl
  | cons m a ih =>
    simp only [List.cons_append, lastM]
    rw [ih]
    cases h : lastM p b with
    | some t => rfl
    | none => rfl
theorem wr_get (p : Nat) : ∀ (l : List Move) (ss : List Tx), p < ss.length → (l.foldl wr ss)[p]? = some ((lastM p l).getD (ss.getD p [])) := by
  intro l
  induction l with
  | nil => intro ss hp; simp [lastM, hp]
  | cons m l ih =>
    intro ss hp
    have hl : (wr ss m).length = ss.length := by unfold wr; split <;> simp
    simp only [List.foldl_cons]
    rw [ih _ (by omega)]
    simp only [lastM]
    cases hq : lastM p l with
    | some t => simp
    | none =>
      unfold wr
      by_cases hk : m.kind = 2
      · simp [hk]
      · by_cases c : m.at_.toNat = p
        · subst c; simp [hk, hp]
        · simp [hk, c, List.getElem?_set]
theorem wr_getD (p : Nat) (l : List Move) (ss : List Tx) (hp : p < ss.length) : (l.foldl wr ss).getD p [] = (lastM p l).getD (ss.getD p []) := by
  rw [List.getD_eq_getElem?_getD, wr_get p l ss hp, Option.getD_some]
theorem lastM_none (p : Nat) : ∀ l : List Move, (∀ m ∈ l, m.kind = 2 ∨ m.at_.toNat ≠ p) → lastM p l = none := by
  intro l
  induction l with
  | nil => intro _; rfl
  | cons m l ih =>
    intro h
    simp only [lastM]
    rw [ih fun x hx => h x (by simp [hx])]
    have := h m (by simp)
    by_cases hk : m.kind = 2
    · simp [hk]
    · simp [hk, this.resolve_left hk]
theorem lastM_jm (h : Int) (hh : 0 ≤ h) : ∀ (l : List Update) (i j : Nat) (u : Update), l[j]? = some u → lastM (39 + 6 * h + 1 + ((i + j : Nat) : Int)).toNat (jmF h l i) = some (updT u) := by
  intro l
  induction l with
  | nil => intro i j u hu; simp at hu
  | cons x l ih =>
    intro i j u hu
    simp only [jmF, lastM]
    cases j with
    | zero =>
      simp at hu; subst hu
      have : lastM (39 + 6 * h + 1 + ((i + 0 : Nat) : Int)).toNat (jmF h l (i + 1)) = none := by
        have far : ∀ (l : List Update) (k : Nat), i < k → ∀ m ∈ jmF h l k, m.kind = 2 ∨ m.at_.toNat ≠ (39 + 6 * h + 1 + ((i + 0 : Nat) : Int)).toNat := by
          intro l
          induction l with
          | nil => intro k _ m hm; cases hm
          | cons y l ih2 =>
            intro k hk m hm
            simp only [jmF, List.mem_cons] at hm
            rcases hm with rfl | hm
            · right; simp only; omega
            · exact ih2 (k + 1) (by omega) m hm
        exact lastM_none _ _ (far l (i + 1) (by omega))
      rw [this]
      simp
    | succ j =>
      have := ih (i + 1) j u (by simpa using hu)
      rw [show i + 1 + j = i + (j + 1) by omega] at this
      rw [this]
theorem wr_flush (s : List Tx) : List.foldl wr s ([⟨2, 0, []⟩] : List Move) = s := rfl
theorem E64_len : E64.length = 64 := by decide
/-- The moves ahead of the head. -/
def pA (h : Int) (l : List Update) : List Move := jmF h l 0 ++ [⟨2, 0, []⟩]
def pH (h q n : Int) : List Move := [⟨1, 39 + 6 * h, sealF 7 [n, q]⟩]
theorem plan_parts (h q : Int) (l : List Update) (hne : l ≠ []) : planF h q l = pA h l ++ (pH h q l.length ++ ([⟨2, 0, []⟩] ++ (l.map mvU ++ ([⟨2, 0, []⟩] ++ (pH h q 0 ++ [⟨2, 0, []⟩]))))) := by
  simp [planF, hne, applyF, pA, pH]
theorem pA_far (h : Int) (l : List Update) (hh : 0 ≤ h) : ∀ m ∈ pA h l, m.kind = 2 ∨ 39 + 6 * h + 1 ≤ m.at_ := by
  intro m hm
  unfold pA at hm
  simp only [List.mem_append, List.mem_singleton] at hm
  rcases hm with hm | rfl
  · right
    have : ∀ (l : List Update) (k : Nat), ∀ m ∈ jmF h l k, 39 + 6 * h + 1 ≤ m.at_ := by
      intro l
      induction l with
      | nil => intro k m hm; cases hm
      | cons u l ih =>
        intro k m hm
        simp only [jmF, List.mem_cons] at hm
        rcases hm with rfl | hm
        · simp only; omega
        · exact ih _ m hm
    exact this l 0 m hm
  · exact .inl rfl
/-- How a slot and the sectors stand behind some of a plan's moves. -/
inductive Stand (h q : Int) (l : List Update) (ss : List Tx) : Prop
  | before (a : ss.getD (39 + 6 * h).toNat [] = []) (b : ss.take 39 = E64.take 39)
  | midst (j : Nat) (a : ss.getD (39 + 6 * h).toNat [] = sealF 7 [(l.length : Int), q]) (b : ss.take 39 = ((l.take j).foldl setU E64).take 39) (c : ∀ (i : Nat) (u : Update), l[i]? = some u → ss.getD (39 + 6 * h + 1 + (i : Int)).toNat [] = updT u)
  | behind (a : ss.getD (39 + 6 * h).toNat [] = sealF 7 [0, q]) (b : ss.take 39 = (l.foldl setU E64).take 39)
theorem upd_far (p : Nat) (hp : 39 ≤ p) (l : List Update) (hu : ∀ x ∈ l, 9 ≤ x.at_ ∧ x.at_ ≤ 28) : lastM p (l.map mvU) = none := by
  refine lastM_none _ _ fun m hm => ?_
  obtain ⟨u, hu', rfl⟩ := List.mem_map.1 hm
  have := hu u hu'
  right; simp only [mvU]; omega
theorem stand (h q : Int) (l : List Update) (hh : 0 ≤ h ∧ h ≤ 3) (hl : l.length ≤ 4) (hne : l ≠ []) (hu : ∀ x ∈ l, 9 ≤ x.at_ ∧ x.at_ ≤ 28 ∧ x.data.length ≤ 8) (k : Nat) : Stand h q l (((planF h q l).take k).foldl wr E64) := by
  have hu' : ∀ x ∈ l, 9 ≤ x.at_ ∧ x.at_ ≤ 28 := fun x hx => ⟨(hu x hx).1, (hu x hx).2.1⟩
  have hB : (39 + 6 * h).toNat < E64.length := by rw [E64_len]; omega
  have hE : E64.getD (39 + 6 * h).toNat [] = [] := E64_get _
  have faraway : ∀ m ∈ pA h l, m.kind = 2 ∨ m.at_.toNat ≠ (39 + 6 * h).toNat := fun m hm => (pA_far h l hh.1 m hm).imp id fun h => by omega
  have n0 : lastM (39 + 6 * h).toNat (pA h l) = none := lastM_none _ _ faraway
  have far39 : ∀ m ∈ pA h l, m.kind = 2 ∨ 39 ≤ m.at_ := fun m hm => (pA_far h l hh.1 m hm).imp id fun h => by omega
  rw [plan_parts h q l hne]
  by_cases k1 : k ≤ (pA h l).length
  · rw [List.take_append_of_le_length k1]
    refine .before ?_ ?_
    · rw [wr_getD _ _ _ hB, lastM_none _ _ (fun m hm => faraway m (List.mem_of_mem_take hm)), hE]; rfl
    · exact wr_far _ _ fun m hm => far39 m (List.mem_of_mem_take hm)
  · obtain ⟨k, rfl⟩ : ∃ k', k = (pA h l).length + 1 + k' := ⟨k - (pA h l).length - 1, by omega⟩
    rw [show (pA h l).length + 1 + k = (pA h l).length + (1 + k) by omega, List.take_length_add_append, show 1 + k = (pH h q l.length).length + k from rfl, List.take_length_add_append]
    -- what stands in the slot behind the head
    have slot : ∀ r : List Move, (∀ i : Nat, i < l.length → lastM (39 + 6 * h + 1 + (i : Int)).toNat r = none) → ∀ (i : Nat) (u : Update), l[i]? = some u → ((pA h l ++ (pH h q l.length ++ r)).foldl wr E64).getD (39 + 6 * h + 1 + (i : Int)).toNat [] = updT u := by
      intro r hr i u hi
      have hil : i < l.length := (List.getElem?_eq_some_iff.1 hi).1
      have j1 := lastM_jm h hh.1 l 0 i u hi
      rw [Nat.zero_add] at j1
      have j2 : lastM (39 + 6 * h + 1 + (i : Int)).toNat (pH h q l.length) = none := lastM_none _ _ (by
        intro m hm
        simp only [pH, List.mem_singleton] at hm
        subst hm; right; simp only; omega)
      have j3 : lastM (39 + 6 * h + 1 + (i : Int)).toNat ([⟨2, 0, []⟩] : List Move) = none := lastM_none _ _ (by
        intro m hm
        simp only [List.mem_singleton] at hm
        subst hm; exact .inl rfl)
      rw [wr_getD _ _ _ (by rw [E64_len]; omega), lastM_app, lastM_app, hr i hil, j2]
      simp only
      unfold pA
      rw [lastM_app, j3, j1]
      rfl
    have head : ∀ (n : Int) (r : List Move), lastM (39 + 6 * h).toNat r = none → ∀ a : List Move, ((a ++ (pH h q n ++ r)).foldl wr E64).getD (39 + 6 * h).toNat [] = sealF 7 [n, q] := by
      intro n r hr a
      rw [wr_getD _ _ _ hB, lastM_app, lastM_app, hr]
      simp [pH, lastM]
    have low : ∀ (a r : List Move) (n : Int), (∀ m ∈ a, m.kind = 2 ∨ 39 ≤ m.at_) → ((a ++ (pH h q n ++ r)).foldl wr E64).take 39 = (r.foldl wr ((a ++ pH h q n).foldl wr E64)).take 39 := by
      intro a r n _
      rw [← List.append_assoc, List.foldl_append]
    by_cases k2 : k ≤ 1 + l.length
    · -- up to the updates
      have e0 : ([⟨2, 0, []⟩] ++ (l.map mvU ++ ([⟨2, 0, []⟩] ++ (pH h q 0 ++ [⟨2, 0, []⟩]))) : List Move).take k = ([⟨2, 0, []⟩] ++ l.map mvU : List Move).take k := by
        rw [← List.append_assoc, List.take_append_of_le_length (by simp; omega)]
      rw [e0]
      refine .midst (k - 1) ?_ ?_ ?_
      · refine head _ _ (lastM_none _ _ fun m hm => ?_) _
        have hm := List.mem_of_mem_take hm
        simp only [List.mem_append, List.mem_singleton, List.mem_map] at hm
        rcases hm with rfl | ⟨u, h1, rfl⟩
        · exact .inl rfl
        · have := hu' u h1; right; simp only [mvU]; omega
      · rw [low _ _ _ far39]
        cases k with
        | zero =>
          simp only [List.take_zero, List.foldl_nil, Nat.zero_sub]
          refine wr_far _ _ fun m hm => ?_
          simp only [List.mem_append, pH, List.mem_singleton] at hm
          rcases hm with hm | rfl
          · exact far39 m hm
          · right; simp only; omega
        | succ k =>
          simp only [List.singleton_append, List.take_succ_cons, List.foldl_cons, Nat.add_sub_cancel]
          rw [← List.map_take, wr_upd]
          refine setU_take _ _ _ ?_
          rw [show ∀ s : List Tx, wr s ⟨2, 0, []⟩ = s from fun s => rfl]
          refine wr_far _ _ fun m hm => ?_
          simp only [List.mem_append, pH, List.mem_singleton] at hm
          rcases hm with hm | rfl
          · exact far39 m hm
          · right; simp only; omega
      · refine slot _ fun i hi => ?_
        refine lastM_none _ _ fun m hm => ?_
        have hm := List.mem_of_mem_take hm
        simp only [List.mem_append, List.mem_singleton, List.mem_map] at hm
        rcases hm with rfl | ⟨u, h1, rfl⟩
        · exact .inl rfl
        · have := hu' u h1; right; simp only [mvU]; omega
    · obtain ⟨k, rfl⟩ : ∃ k', k = 1 + l.length + 1 + k' := ⟨k - l.length - 2, by omega⟩
      have e1 : ([⟨2, 0, []⟩] ++ (l.map mvU ++ ([⟨2, 0, []⟩] ++ (pH h q 0 ++ [⟨2, 0, []⟩]))) : List Move).take (1 + l.length + 1 + k) = [⟨2, 0, []⟩] ++ (l.map mvU ++ ([⟨2, 0, []⟩] ++ (pH h q 0 ++ [⟨2, 0, []⟩] : List Move).take k)) := by
        rw [show 1 + l.length + 1 + k = ([⟨2, 0, []⟩] : List Move).length + (l.length + (1 + k)) by simp; omega, List.take_length_add_append]
        rw [show l.length + (1 + k) = (l.map mvU).length + (1 + k) by simp, List.take_length_add_append]
        rw [show 1 + k = ([⟨2, 0, []⟩] : List Move).length + k by simp, List.take_length_add_append]
      rw [e1]
      cases k with
      | zero =>
        simp only [List.take_zero, List.append_nil]
        have no : ∀ p : Nat, 39 ≤ p → lastM p ([⟨2, 0, []⟩] ++ (l.map mvU ++ [⟨2, 0, []⟩]) : List Move) = none := by
          intro p hp
          refine lastM_none _ _ fun m hm => ?_
          simp only [List.mem_append, List.mem_singleton, List.mem_map] at hm
          rcases hm with rfl | ⟨u, h1, rfl⟩ | rfl
          · exact .inl rfl
          · have := hu' u h1; right; simp only [mvU]; omega
          · exact .inl rfl
        refine .midst l.length ?_ ?_ ?_
        · exact head _ _ (no _ (by omega)) _
        · rw [low _ _ _ far39, List.foldl_append, List.foldl_append, wr_upd, List.take_of_length_le (Nat.le_refl _), wr_flush, wr_flush]
          refine setU_take _ _ _ (wr_far _ _ fun m hm => ?_)
          simp only [List.mem_append, pH, List.mem_singleton] at hm
          rcases hm with hm | rfl
          · exact far39 m hm
          · right; simp only; omega
        · exact slot _ fun i hi => no _ (by omega)
      | succ k =>
        refine .behind ?_ ?_
        · have hr : (pH h q 0 ++ [⟨2, 0, []⟩] : List Move).take (k + 1) = pH h q 0 ++ ([⟨2, 0, []⟩] : List Move).take k := by
            rw [show k + 1 = (pH h q 0).length + k by simp [pH]; omega, List.take_length_add_append]
          rw [hr]
          have := head 0 (([⟨2, 0, []⟩] : List Move).take k) (lastM_none _ _ fun m hm => by
            have hm := List.mem_of_mem_take hm
            simp only [List.mem_singleton] at hm
            subst hm; exact .inl rfl) (pA h l ++ (pH h q l.length ++ ([⟨2, 0, []⟩] ++ (l.map mvU ++ [⟨2, 0, []⟩]))))
          simpa only [List.append_assoc] using this
        · rw [low _ _ _ far39, List.foldl_append, List.foldl_append, List.foldl_append, wr_upd]
          rw [wr_flush, wr_flush, wr_far ((pH h q 0 ++ ([⟨2, 0, []⟩] : List Move)).take (k + 1)) _ (fun m hm => by
            have hm := List.mem_of_mem_take hm
            simp only [List.mem_append, pH, List.mem_singleton] at hm
            rcases hm with rfl | rfl
            · right; simp only; omega
            · exact .inl rfl)]
          refine setU_take _ _ _ (wr_far _ _ fun m hm => ?_)
          simp only [List.mem_append, pH, List.mem_singleton] at hm
          rcases hm with hm | rfl
          · exact far39 m hm
          · right; simp only; omega
end Go.Proofs.Ytccoeoppjcegnaa

namespace Go.Proofs.Ytccoeoppjcegnaa
open Go
set_option maxRecDepth 100000
set_option linter.unusedSimpArgs false
set_option linter.unusedVariables false
theorem updF_updT (u : Update) (h : 9 ≤ u.at_ ∧ u.at_ ≤ 28 ∧ u.data.length ≤ 8) : updF (updT u) = some u := by
  have hs : (sealF 8 [u.at_]).length = 8 := by simp [sealF, packF_length]
  have h1 : (updT u).take 8 = sealF 8 [u.at_] := by unfold updT; rw [List.take_append_of_le_length (by omega), List.take_of_length_le (by omega)]
  have h2 : (updT u).drop 8 = u.data := by unfold updT; rw [List.drop_append_of_le_length (by omega), List.drop_of_length_le (by omega), List.nil_append]
  have h3 : openF (sealF 8 [u.at_]) 8 = some [u.at_] := open_seal (by decide) (by simp [intsOK, isNum, inn]; omega)
  have h4 : updOK u = true := by simp [updOK, inn]; omega
  unfold updF
  rw [if_neg (by unfold updT; simp; omega), h1, h2, h3]
  simp only
  rw [if_pos h4]
theorem updsR_all (d : Disk) (h b : Int) (l : List Update) (hr : ∀ (i : Nat) (u : Update), l[i]? = some u → updF (rdL d.ss d.ps h (b + 1 + (i : Int))) = some u) : ∀ (k i : Nat) (a : List Update), i + k = l.length → updsR d h b k i a = (true, a ++ l.drop i) := by
  intro k
  induction k with
  | zero => intro i a hi; unfold updsR; rw [List.drop_of_length_le (by omega)]; simp
  | succ k ih =>
    intro i a hi
    have hlt : i < l.length := by omega
    unfold updsR
    rw [hr i l[i] (List.getElem?_eq_getElem hlt)]
    simp only
    rw [ih (i + 1) _ (by omega), List.drop_eq_getElem_cons hlt]
    simp
theorem rdL_sure (ss : List Tx) (h a : Int) : rdL ss [] h a = ss.getD a.toNat [] := rfl
structure Read1 (h : Int) (ss : List Tx) (l : List Update) (q : Int) : Prop where
  ans : ∀ h' : Int, 0 ≤ h' ∧ h' ≤ 3 → jAns ⟨ss, []⟩ h' h = (l, q, 0)
theorem jAns_of_wait {h h' q : Int} {ss : List Tx} {l : List Update} (hd : diskOK ⟨ss, []⟩ = true) (hh : 0 ≤ h ∧ h ≤ 3) (hh' : 0 ≤ h' ∧ h' ≤ 3) (hw : waitF ⟨ss, []⟩ h' h = some (l, q)) : jAns ⟨ss, []⟩ h' h = (l, q, 0) := by
  have hj : jcode ⟨ss, []⟩ h' h = 0 := by
    have i1 : inn h' 0 3 = true := by simp [inn]; omega
    have i2 : inn h 0 3 = true := by simp [inn]; omega
    simp [jcode, hd, i1, i2]
  unfold jAns
  rw [if_neg (by simp [hj]), hw]
theorem seal7_ne (a b : Int) : sealF 7 [a, b] ≠ [] := by simp [sealF]
theorem wait_head0 {h h' q : Int} {ss : List Tx} (hq : 0 ≤ q ∧ q ≤ 2147483647) (ha : ss.getD (39 + 6 * h).toNat [] = sealF 7 [0, q]) : waitF ⟨ss, []⟩ h' h = some ([], q) := by
  have ho := open_seal (k := 7) (l := [0, q]) (by decide) (by simp [intsOK, isNum, inn]; omega)
  unfold waitF
  rw [rdL_sure, ha, if_neg (seal7_ne _ _), ho]
  simp [updsR]
theorem wait_none {h h' : Int} {ss : List Tx} (ha : ss.getD (39 + 6 * h).toNat [] = []) : waitF ⟨ss, []⟩ h' h = some ([], 0) := by
  unfold waitF
  rw [rdL_sure, ha, if_pos rfl]
theorem wait_all {h h' q : Int} {ss : List Tx} {l : List Update} (hq : 0 ≤ q ∧ q ≤ 2147483647) (hl : l.length ≤ 4) (hu : ∀ x ∈ l, 9 ≤ x.at_ ∧ x.at_ ≤ 28 ∧ x.data.length ≤ 8)
    (ha : ss.getD (39 + 6 * h).toNat [] = sealF 7 [(l.length : Int), q]) (hc : ∀ (i : Nat) (u : Update), l[i]? = some u → ss.getD (39 + 6 * h + 1 + (i : Int)).toNat [] = updT u) : waitF ⟨ss, []⟩ h' h = some (l, q) := by
  have ho := open_seal (k := 7) (l := [(l.length : Int), q]) (by decide) (by simp [intsOK, isNum, inn]; omega)
  have hr := updsR_all ⟨ss, []⟩ h' (39 + 6 * h) l (fun i u hi => by
    rw [rdL_sure, hc i u hi]
    exact updF_updT u (hu u (List.mem_of_getElem? hi))) l.length 0 [] (by omega)
  unfold waitF
  rw [rdL_sure, ha, if_neg (seal7_ne _ _), ho]
  simp only
  rw [if_neg (by omega), Int.toNat_natCast, hr]
  simp
/-- Moves of a replay. -/
theorem replay_eq (h q : Int) (l : List Update) : applyF h q l = (l.map mvU ++ ([⟨2, 0, []⟩] ++ pH h q 0)) ++ ([⟨2, 0, []⟩] : List Move) := by simp [applyF, pH]
theorem landL_small (h : Int) (lose : Bool) : ∀ (ps : List Io) (k : Int) (ss : List Tx), (∀ x ∈ ps, x.data.length ≤ 80) → (∀ s ∈ ss, s.length ≤ 80) → ∀ s ∈ (landL h lose ps k ss).2.2, s.length ≤ 80 := by
  intro ps
  induction ps with
  | nil => intro k ss _ h; exact h
  | cons x ps ih =>
    intro k ss hx hs
    unfold landL
    split
    · refine ih _ _ (fun y hy => hx y (by simp [hy])) ?_
      intro s hm
      unfold sOf at hm
      split at hm
      · rcases List.mem_or_eq_of_mem_set hm with hm | rfl
        · exact hs s hm
        · exact hx x (by simp)
      · exact hs s hm
    · exact ih _ _ (fun y hy => hx y (by simp [hy])) hs
theorem diskOK_iff {d : Disk} : diskOK d = true ↔ d.ss.length = 64 ∧ (∀ s ∈ d.ss, s.length ≤ 80) ∧ d.ps.length ≤ 200 ∧ ∀ x ∈ d.ps, ioOK x = true := by
  simp [diskOK, and_assoc]
theorem settle_ok {d : Disk} (hd : diskOK d = true) (h k : Int) (lose : Bool) : diskOK (settleD d h k lose) = true := by
  obtain ⟨a1, a2, a3, a4⟩ := diskOK_iff.1 hd
  have hl := landL_len h lose d.ps k d.ss
  refine diskOK_iff.2 ⟨by simp only [settleD]; rw [hl.2, a1], landL_small h lose d.ps k d.ss (fun x hx => ?_) a2, by simp only [settleD]; omega, landL_all h lose (fun x => ioOK x = true) d.ps k d.ss a4⟩
  have := a4 x hx
  simp [ioOK] at this
  exact this.2
theorem moves_ok (h : Int) (hh : inn h 0 3 = true) : ∀ (l : List Move) (d : Disk) (tl : List Io), diskOK d = true → d.ps.length + l.length ≤ 200 → (∀ m ∈ l, moveOK m = true) → diskOK (l.foldl (mvT h) (d, tl)).1 = true := by
  intro l
  induction l with
  | nil => intro d tl hd _ _; exact hd
  | cons m l ih =>
    intro d tl hd hl hm
    simp only [List.length_cons] at hl
    simp only [List.foldl_cons]
    have hm1 := hm m (by simp)
    by_cases hk : m.kind = 2
    · have e : mvT h (d, tl) m = (settleD d h 400 false, (mvT h (d, tl) m).2) := by
        unfold mvT
        rw [if_pos hk]
      rw [e]
      have := (landL_len h false d.ps 400 d.ss).1
      exact ih _ _ (settle_ok hd h 400 false) (by simp only [settleD]; omega) fun x hx => hm x (by simp [hx])
    · have e : mvT h (d, tl) m = (⟨d.ss, d.ps ++ [⟨h, m.at_, m.data⟩]⟩, (mvT h (d, tl) m).2) := by
        unfold mvT
        rw [if_neg hk]
      rw [e]
      obtain ⟨a1, a2, a3, a4⟩ := diskOK_iff.1 hd
      refine ih _ _ (diskOK_iff.2 ⟨a1, a2, by simp; omega, fun x hx => ?_⟩) (by simp; omega) fun x hx => hm x (by simp [hx])
      simp only [List.mem_append, List.mem_singleton] at hx
      rcases hx with hx | rfl
      · exact a4 x hx
      · simp [moveOK, hk] at hm1
        simp [ioOK, hh, hm1]
structure After (h : Int) (l : List Update) (ss z : List Tx) (rp : List Move) : Prop where
  len : rp.length ≤ 10
  oks : ∀ m ∈ rp, moveOK m = true
  done : ∀ o : Int, (rp.foldl (mvT o) (⟨ss, []⟩, [])).1 = ⟨z, []⟩
  ok : diskOK ⟨z, []⟩ = true
  left : ∀ h' : Int, 0 ≤ h' ∧ h' ≤ 3 → ∃ q' : Int, jAns ⟨z, []⟩ h' h = ([], q', 0)
  secs : z.take 39 = E64.take 39 ∨ z.take 39 = (l.foldl setU E64).take 39
theorem ok_of {ss : List Tx} (h1 : ss.length = 64) (h2 : ∀ s ∈ ss, s.length ≤ 80) : diskOK ⟨ss, []⟩ = true := by
  simp only [diskOK, h1]
  simp
  exact h2
/-- Behind a crash wherever, and a replay: all or nothing. -/
theorem atomic (h q : Int) (l : List Update) (hh : 0 ≤ h ∧ h ≤ 3) (hq : 0 ≤ q ∧ q ≤ 2147483647) (hl : l.length ≤ 4) (hu : ∀ x ∈ l, 9 ≤ x.at_ ∧ x.at_ ≤ 28 ∧ x.data.length ≤ 8) (k : Nat) :
    ∃ rp z, diskOK ⟨((planF h q l).take k).foldl wr E64, []⟩ = true ∧ (∀ o : Int, 0 ≤ o ∧ o ≤ 3 → rAns ⟨((planF h q l).take k).foldl wr E64, []⟩ o h = (rp, 0)) ∧ After h l (((planF h q l).take k).foldl wr E64) z rp := by
  have ok64 : diskOK ⟨E64, []⟩ = true := d64_ok
  by_cases hne : l = []
  · subst hne
    refine ⟨[], E64, by simpa [planF] using ok64, fun o ho => ?_, ⟨by simp, by simp, fun o => by simp [planF], ok64, fun h' hh' => ⟨0, jAns_of_wait ok64 hh hh' (wait_none (E64_get _))⟩, .inl rfl⟩⟩
    have : jAns ⟨E64, []⟩ o h = ([], 0, 0) := jAns_of_wait ok64 hh ho (wait_none (E64_get _))
    simp [planF, rAns, this]
  have st := stand h q l hh hl hne hu k
  have hp := plan0_ok h q l hh hl hu
  have hall : ∀ m ∈ (planF h q l).take k, m.data.length ≤ 80 := by
    intro m hm
    have hm := List.mem_of_mem_take hm
    rw [planF_eq h q l hne] at hm
    simp only [List.mem_append, List.mem_singleton] at hm
    rcases hm with hm | rfl
    · exact (hp m hm).2
    · decide
  have h64 : (((planF h q l).take k).foldl wr E64).length = 64 := by rw [wr_length]; decide
  have hsm := wr_small _ E64 hall (by intro s hs; simp [E64] at hs; simp [hs])
  generalize ((planF h q l).take k).foldl wr E64 = ss at *
  have hok := ok_of h64 hsm
  -- nothing waits
  have quiet : (∃ q' : Int, ∀ h' : Int, waitF ⟨ss, []⟩ h' h = some ([], q')) → (ss.take 39 = E64.take 39 ∨ ss.take 39 = (l.foldl setU E64).take 39) →
      ∃ rp z, diskOK ⟨ss, []⟩ = true ∧ (∀ o : Int, 0 ≤ o ∧ o ≤ 3 → rAns ⟨ss, []⟩ o h = (rp, 0)) ∧ After h l ss z rp := by
    rintro ⟨q', hw⟩ hs
    refine ⟨[], ss, hok, fun o ho => ?_, ⟨by simp, by simp, fun o => rfl, hok, fun h' hh' => ⟨q', jAns_of_wait hok hh hh' (hw h')⟩, hs⟩⟩
    have := jAns_of_wait hok hh ho (hw o)
    simp [rAns, this]
  cases st with
  | before a b => exact quiet ⟨0, fun h' => wait_none a⟩ (.inl b)
  | behind a b => exact quiet ⟨q, fun h' => wait_head0 hq a⟩ (.inr b)
  | midst j a b c =>
    have hw : ∀ h' : Int, waitF ⟨ss, []⟩ h' h = some (l, q) := fun h' => wait_all hq hl hu a c
    have s7 : (sealF 7 [0, q]).length = 12 := by simp [sealF, packF_length]
    have hmo : ∀ m ∈ applyF h q l, moveOK m = true ∧ m.data.length ≤ 80 := by
      intro m hm
      have hsub : m ∈ plan0 h q l ++ ([⟨2, 0, []⟩] : List Move) := by
        rw [← planF_eq h q l hne]
        simp only [planF, hne, if_false, List.mem_append]
        exact .inr hm
      simp only [List.mem_append, List.mem_singleton] at hsub
      rcases hsub with hm | rfl
      · exact hp m hm
      · exact ⟨by decide, by decide⟩
    have hz : (l.map mvU ++ (([⟨2, 0, []⟩] : List Move) ++ pH h q 0)).foldl wr ss = (l.foldl setU ss).set (39 + 6 * h).toNat (sealF 7 [0, q]) := by
      rw [List.foldl_append, wr_upd, List.foldl_append, wr_flush]
      simp [pH, wr]
    have zlen : ((l.foldl setU ss).set (39 + 6 * h).toNat (sealF 7 [0, q])).length = 64 := by simp [setU_len, h64]
    have zok : diskOK ⟨(l.foldl setU ss).set (39 + 6 * h).toNat (sealF 7 [0, q]), []⟩ = true := by
      refine ok_of zlen ?_
      rw [← hz]
      refine wr_small _ _ (fun m hm => (hmo m ?_).2) hsm
      rw [replay_eq]
      exact List.mem_append_left _ hm
    refine ⟨applyF h q l, (l.foldl setU ss).set (39 + 6 * h).toNat (sealF 7 [0, q]), hok, fun o ho => ?_, ⟨by rw [applyF_length]; omega, fun m hm => (hmo m hm).1, fun o => ?_, zok, fun h' hh' => ⟨q, ?_⟩, .inr ?_⟩⟩
    · have := jAns_of_wait hok hh ho (hw o)
      simp [rAns, this, hne]
    · rw [replay_eq, moves_end o _ ss (by simp [pH]; omega), hz]
    · refine jAns_of_wait zok hh hh' (wait_head0 hq ?_)
      have : (39 + 6 * h).toNat < (l.foldl setU ss).length := by rw [setU_len]; omega
      simp [this]
    · rw [List.take_set_of_le (by omega)]
      have := setU_take l _ _ b
      rw [this, setU_again]
end Go.Proofs.Ytccoeoppjcegnaa

namespace Go.Proofs.Ytccoeoppjcegnaa
open Go
set_option maxRecDepth 100000
set_option maxHeartbeats 4000000
set_option linter.unusedSimpArgs false
set_option linter.unusedVariables false
structure ES where
  d : Disk
  p : Px
  bs : List Bl
def stE (s : ES) : ES :=
  ⟨if (stepP s.p s.bs).2.getD s.p.host.toNat zBl = s.bs.getD s.p.host.toNat zBl then s.d else putD s.d s.p.host (1 + s.p.host) (blT ((stepP s.p s.bs).2.getD s.p.host.toNat zBl)), (stepP s.p s.bs).1, (stepP s.p s.bs).2⟩
def over (p : Px) : Bool := decide (p.phase = 5) || decide (p.phase = 6)
def runE : Nat → ES → ES
  | 0, s => s
  | n + 1, s => if over s.p then s else runE n (stE s)
def mu (p : Px) : Nat := if p.phase = 1 then 30 else if p.phase = 2 then 20 + (5 - p.next).toNat else if p.phase = 3 then 15 else if p.phase = 4 then 5 + (5 - p.next).toNat else 0
structure ESIn (h : Int) (s : ES) : Prop where
  host : s.p.host = h
  h0 : 0 ≤ h
  h3 : h ≤ 3
  len : s.bs.length = 4
  p1 : 1 ≤ s.p.phase
  p6 : s.p.phase ≤ 6
  n0 : 0 ≤ s.p.next
  n5 : s.p.next ≤ 5
  n3 : s.p.phase = 2 ∨ s.p.phase = 4 → s.p.next ≤ 3
  ok : diskOK s.d = true
  room : s.d.ps.length < 200
theorem landL_put (h : Int) : ∀ (ps : List Io) (k : Int) (ss : List Tx) (x : Io), x.host = h → (ps.length : Int) < k → (landL h false (ps ++ [x]) k ss).1.length ≤ ps.length := by
  intro ps
  induction ps with
  | nil =>
    intro k ss x hx hk
    simp only [List.length_nil] at hk
    have : 0 < k := by omega
    simp [landL, goes, hx, this]
  | cons y ps ih =>
    intro k ss x hx hk
    simp only [List.length_cons] at hk
    simp only [List.cons_append]
    unfold landL
    split
    · have hk' : (ps.length : Int) < kOf h k y := by unfold kOf; split <;> omega
      have := ih (kOf h k y) (sOf h k ss y) x hx hk'
      simp only [List.length_cons]; omega
    · have := ih k ss x hx (by omega)
      simp only [List.length_cons]; omega
theorem putD_room (d : Disk) (h a : Int) (t : Tx) (hd : d.ps.length < 200) : (putD d h a t).ps.length ≤ d.ps.length := by
  unfold putD settleD
  exact landL_put h d.ps 201 d.ss ⟨h, a, t⟩ rfl (by omega)
theorem putD_ok {d : Disk} {h a : Int} {t : Tx} (hd : diskOK d = true) (hr : d.ps.length < 200) (hh : inn h 0 3 = true) (ha : inn a 0 63 = true) (ht : t.length ≤ 80) : diskOK (putD d h a t) = true := by
  unfold putD
  refine settle_ok ?_ h 201 false
  obtain ⟨a1, a2, a3, a4⟩ := diskOK_iff.1 hd
  refine diskOK_iff.2 ⟨a1, a2, by simp; omega, fun x hx => ?_⟩
  simp only [List.mem_append, List.mem_singleton] at hx
  rcases hx with hx | rfl
  · exact a4 x hx
  · simp [ioOK, hh, ha, ht]
theorem blT_len (b : Bl) : (blT b).length = 20 := by simp [blT, sealF_length]
theorem finP_in (q : Px) (hn : 0 ≤ q.next ∧ q.next ≤ 5) (hp : q.phase = 2 ∨ q.phase = 4) : (finP q).host = q.host ∧ (finP q).next = q.next ∧ ((finP q).phase = q.phase ∧ q.next ≤ 3 ∨ (q.phase = 4 ∧ (finP q).phase = 5) ∨ (q.phase = 2 ∧ (finP q).phase = 3)) := by
  unfold finP
  split
  · refine ⟨rfl, rfl, .inl ⟨rfl, by omega⟩⟩
  · split
    · exact ⟨rfl, rfl, .inr (.inl ⟨by assumption, rfl⟩)⟩
    · rename_i h
      exact ⟨rfl, rfl, .inr (.inr ⟨by omega, rfl⟩)⟩
theorem stepP_in {h : Int} {s : ES} (g : ESIn h s) (ho : over s.p = false) : (stepP s.p s.bs).1.host = h ∧ (stepP s.p s.bs).2.length = 4 ∧ 1 ≤ (stepP s.p s.bs).1.phase ∧ (stepP s.p s.bs).1.phase ≤ 6 ∧
    0 ≤ (stepP s.p s.bs).1.next ∧ (stepP s.p s.bs).1.next ≤ 5 ∧ ((stepP s.p s.bs).1.phase = 2 ∨ (stepP s.p s.bs).1.phase = 4 → (stepP s.p s.bs).1.next ≤ 3) ∧ mu (stepP s.p s.bs).1 < mu s.p := by
  have g1 := g.host; have g2 := g.h0; have g3 := g.h3; have g4 := g.len; have g5 := g.p1; have g6 := g.p6; have g7 := g.n0; have g8 := g.n5; have g9 := g.n3
  simp [over] at ho
  unfold stepP
  by_cases hw : s.p.phase = 1 ∨ s.p.phase = 3
  · rw [if_pos hw]
    split
    · refine ⟨g1, g4, by simp, by simp, g7, g8, by simp, ?_⟩
      rcases hw with hw | hw <;> simp [mu, hw]
    · unfold writeP
      split
      · rename_i h3
        refine ⟨g1, by simp [g4], by simp, by simp, by simp, by simp, by simp, ?_⟩
        simp [mu, h3]
      · rename_i h3
        have h1 : s.p.phase = 1 := hw.resolve_right h3
        refine ⟨g1, by simp [g4], by simp, by simp, by simp, by simp, by simp, ?_⟩
        simp [mu, h1]
  · rw [if_neg hw]
    have h24 : s.p.phase = 2 ∨ s.p.phase = 4 := by omega
    have n3 := g9 h24
    have hx0 : s.p.next ≤ nx0 s.p ∧ nx0 s.p ≤ s.p.next + 1 := by unfold nx0; split <;> omega
    refine (fun (hx : (readP s.p s.bs).host = h ∧ ((readP s.p s.bs).phase = 6 ∧ 0 ≤ (readP s.p s.bs).next ∧ (readP s.p s.bs).next ≤ 5 ∨ s.p.next < (readP s.p s.bs).next ∧ (readP s.p s.bs).next ≤ 5 ∧ ((readP s.p s.bs).phase = s.p.phase ∧ (readP s.p s.bs).next ≤ 3 ∨ (s.p.phase = 4 ∧ (readP s.p s.bs).phase = 5) ∨ (s.p.phase = 2 ∧ (readP s.p s.bs).phase = 3)))) => ?_) ?_
    · obtain ⟨a1, a2⟩ := hx
      simp only
      generalize readP s.p s.bs = r at *
      rcases a2 with ⟨b1, b2, b3⟩ | ⟨b1, b2, ⟨b3, b4⟩ | ⟨b3, b4⟩ | ⟨b3, b4⟩⟩
      · refine ⟨a1, g4, by omega, by omega, by omega, by omega, by omega, ?_⟩
        rcases h24 with h24 | h24 <;> simp [mu, b1, h24] <;> omega
      · refine ⟨a1, g4, by omega, by omega, by omega, by omega, by omega, ?_⟩
        rcases h24 with h24 | h24 <;> simp [mu, b3, h24] <;> omega
      · refine ⟨a1, g4, by omega, by omega, by omega, by omega, by omega, ?_⟩
        simp [mu, b3, b4]; omega
      · refine ⟨a1, g4, by omega, by omega, by omega, by omega, by omega, ?_⟩
        simp [mu, b3, b4]; omega
    · unfold readP
      by_cases hn : nx0 s.p < 4
      · rw [if_pos hn]
        unfold readB
        split
        · exact ⟨g1, .inl ⟨rfl, by simp only; omega, by simp only; omega⟩⟩
        · have hf := finP_in { s.p with next := if nx0 s.p + 1 = s.p.host then nx0 s.p + 1 + 1 else nx0 s.p + 1, best := if s.p.phase ≠ 4 ∧ s.p.bestBal < (ofV (s.bs.getD (nx0 s.p).toNat zBl) s.p.ver).bal then (ofV (s.bs.getD (nx0 s.p).toNat zBl) s.p.ver).inp else s.p.best, bestBal := if s.p.phase ≠ 4 ∧ s.p.bestBal < (ofV (s.bs.getD (nx0 s.p).toNat zBl) s.p.ver).bal then (ofV (s.bs.getD (nx0 s.p).toNat zBl) s.p.ver).bal else s.p.bestBal } (by simp only; split <;> omega) h24
          obtain ⟨f1, f2, f3⟩ := hf
          refine ⟨f1.trans g1, .inr ⟨?_, ?_, ?_⟩⟩
          · rw [f2]; simp only; split <;> omega
          · rw [f2]; simp only; split <;> omega
          · rw [f2]; exact f3
      · rw [if_neg hn]
        have hf := finP_in { s.p with next := nx0 s.p } (by simp only; omega) h24
        obtain ⟨f1, f2, f3⟩ := hf
        refine ⟨f1.trans g1, .inr ⟨?_, ?_, ?_⟩⟩
        · rw [f2]; simp only; omega
        · rw [f2]; simp only; omega
        · rw [f2]; exact f3
theorem stE_in {h : Int} {s : ES} (g : ESIn h s) (ho : over s.p = false) : ESIn h (stE s) ∧ mu (stE s).p < mu s.p := by
  obtain ⟨a1, a2, a3, a4, a5, a6, a7, a8⟩ := stepP_in g ho
  have hh : inn h 0 3 = true := by have := g.h0; have := g.h3; simp [inn]; omega
  have ha : inn (1 + h) 0 63 = true := by have := g.h0; have := g.h3; simp [inn]; omega
  refine ⟨⟨a1, g.h0, g.h3, a2, a3, a4, a5, a6, a7, ?_, ?_⟩, a8⟩
  · simp only [stE]
    split
    · exact g.ok
    · rw [g.host]; exact putD_ok g.ok g.room hh ha (by rw [blT_len]; omega)
  · simp only [stE]
    split
    · exact g.room
    · have := putD_room s.d s.p.host (1 + s.p.host) (blT ((stepP s.p s.bs).2.getD s.p.host.toNat zBl)) g.room
      have := g.room
      omega
theorem mu_over {p : Px} (h : over p = true) : mu p = 0 := by
  simp [over] at h
  rcases h with h | h <;> simp [mu, h]
theorem runE_over {s : ES} (h : over s.p = true) : ∀ n, runE n s = s := by
  intro n
  cases n with
  | zero => rfl
  | succ n => simp [runE, h]
theorem runE_stable (h : Int) : ∀ (m : Nat) (s : ES), ESIn h s → mu s.p ≤ m → ∀ n, mu s.p ≤ n → runE n s = runE m s := by
  intro m
  induction m with
  | zero =>
    intro s g hm n hn
    cases ho : over s.p with
    | true => rw [runE_over ho, runE_over ho]
    | false => have := (stE_in g ho).2; omega
  | succ m ih =>
    intro s g hm n hn
    cases ho : over s.p with
    | true => rw [runE_over ho, runE_over ho]
    | false =>
      obtain ⟨g', hlt⟩ := stE_in g ho
      cases n with
      | zero => omega
      | succ n =>
        simp only [runE, ho, Bool.false_eq_true, if_false]
        exact ih (stE s) g' (by omega) n (by omega)
theorem runE_step {h : Int} {s : ES} (g : ESIn h s) (ho : over s.p = false) : runE 40 (stE s) = runE 40 s := by
  obtain ⟨g', hlt⟩ := stE_in g ho
  have hb : mu s.p ≤ 30 := by
    unfold mu
    have := g.n0
    split
    · omega
    · split
      · omega
      · split
        · omega
        · split <;> omega
  have e : runE 40 s = runE 39 (stE s) := by simp [runE, ho]
  rw [e]
  exact runE_stable h 39 (stE s) g' (by omega) 40 (by omega)
theorem runE_in {h : Int} : ∀ (n : Nat) (s : ES), ESIn h s → ESIn h (runE n s) := by
  intro n
  induction n with
  | zero => intro s g; exact g
  | succ n ih =>
    intro s g
    unfold runE
    cases ho : over s.p with
    | true => simpa using g
    | false => simpa using ih _ (stE_in g ho).1
theorem runE_ends {h : Int} : ∀ (n : Nat) (s : ES), ESIn h s → mu s.p ≤ n → over (runE n s).p = true := by
  intro n
  induction n with
  | zero =>
    intro s g hm
    cases ho : over s.p with
    | true => exact ho
    | false => have := (stE_in g ho).2; omega
  | succ n ih =>
    intro s g hm
    unfold runE
    cases ho : over s.p with
    | true => simpa using ho
    | false =>
      obtain ⟨g', hlt⟩ := stE_in g ho
      simpa using ih _ g' (by omega)
def rdB (d : Disk) (h : Int) (i : Int) : Bl := (blF (rdL d.ss d.ps h (1 + i))).getD zBl
def blks (d : Disk) (h : Int) : List Bl := [rdB d h 0, rdB d h 1, rdB d h 2, rdB d h 3]
def px0 (h v b w : Int) : Px := ⟨h, v, 1, b, w, 0, 0, 0⟩
def es0 (d : Disk) (h owner gen : Int) : ES := ⟨d, px0 h ((rdLd d h).ver + 1) (nextB h ((rdLd d h).ver + 1) (blks d h)) (1024 * gen + owner), blks d h⟩
def ldE (s : ES) : Leader := ⟨s.p.ver, s.p.value.tmod 1024, s.p.value.tdiv 1024⟩
def endE (d : Disk) (h : Int) (v : Int) (s : ES) : Disk × Leader × Int :=
  if s.p.phase = 6 ∨ ldrOK ⟨v, s.p.value.tmod 1024, s.p.value.tdiv 1024⟩ = false then (s.d, rdLd d h, 19)
  else (putD s.d h 0 (ldrT ⟨v, s.p.value.tmod 1024, s.p.value.tdiv 1024⟩), ⟨v, s.p.value.tmod 1024, s.p.value.tdiv 1024⟩, 0)
def electA (d : Disk) (h owner gen : Int) : Disk × Leader × Int := endE d h ((rdLd d h).ver + 1) (runE 40 (es0 d h owner gen))
theorem blF_ok {t : Tx} {b : Bl} (h : blF t = some b) : blkOK b = true := by
  unfold blF at h
  split at h
  · split at h
    · rename_i hok
      injection h with h; subst h; exact hok
    · cases h
  · cases h
theorem rdB_ok (d : Disk) (h i : Int) : 0 ≤ (rdB d h i).mbal ∧ (rdB d h i).mbal ≤ 1000000 ∧ 0 ≤ (rdB d h i).bal ∧ (rdB d h i).bal ≤ (rdB d h i).mbal := by
  unfold rdB
  cases hb : blF (rdL d.ss d.ps h (1 + i)) with
  | none => simp [zBl]
  | some b =>
    have := blF_ok hb
    simp [blkOK, inn] at this
    simp only [Option.getD_some]
    omega
theorem blks_mbal (d : Disk) (h : Int) : ∀ b ∈ blks d h, 0 ≤ b.mbal ∧ b.mbal ≤ 1000000 := by
  intro b hb
  simp only [blks, List.mem_cons, List.not_mem_nil, or_false] at hb
  rcases hb with rfl | rfl | rfl | rfl
  · exact ⟨(rdB_ok d h 0).1, (rdB_ok d h 0).2.1⟩
  · exact ⟨(rdB_ok d h 1).1, (rdB_ok d h 1).2.1⟩
  · exact ⟨(rdB_ok d h 2).1, (rdB_ok d h 2).2.1⟩
  · exact ⟨(rdB_ok d h 3).1, (rdB_ok d h 3).2.1⟩
theorem rdLd_ver (d : Disk) (h : Int) : 0 ≤ (rdLd d h).ver ∧ (rdLd d h).ver ≤ 1000000 ∧ ldrOK (rdLd d h) = true := by
  unfold rdLd
  cases hx : ldrF (rdL d.ss d.ps h 0) with
  | none => simp [noL, ldrOK, inn]
  | some x =>
    have hok : ldrOK x = true := by
      unfold ldrF at hx
      split at hx
      · split at hx
        · rename_i hok
          injection hx with hx; subst hx; exact hok
        · cases hx
      · cases hx
    have h2 := hok
    simp [ldrOK, inn] at h2
    simp only [Option.getD_some]
    exact ⟨by omega, by omega, hok⟩
theorem es0_in {d : Disk} {h owner gen : Int} (hd : diskOK d = true) (hh : 0 ≤ h ∧ h ≤ 3) (hr : d.ps.length < 200) : ESIn h (es0 d h owner gen) :=
  ⟨rfl, hh.1, hh.2, rfl, by simp [es0, px0], by simp [es0, px0], by simp [es0, px0], by simp [es0, px0], by simp [es0, px0], hd, hr⟩
/-! Values stay numbers. -/
def sm (n : Int) : Prop := 0 ≤ n ∧ n ≤ 2147483647
structure VIn (p : Px) (bs : List Bl) : Prop where
  val : sm p.value
  best : sm p.best
  inp : ∀ b ∈ bs, sm b.inp
theorem getD_sm {bs : List Bl} (h : ∀ b ∈ bs, sm b.inp) (n : Nat) (v : Int) : sm (ofV (bs.getD n zBl) v).inp := by
  have h0 : sm (bs.getD n zBl).inp := by
    by_cases hn : n < bs.length
    · rw [getD_at hn]; exact h _ (List.getElem_mem hn)
    · rw [List.getD_eq_getElem?_getD, List.getElem?_eq_none (by omega)]; unfold sm zBl; simp
  unfold ofV
  split
  · unfold sm; simp
  · exact h0
theorem finP_v {q : Px} {bs : List Bl} (v : VIn q bs) : VIn (finP q) bs := by
  unfold finP
  split
  · exact v
  · split
    · exact ⟨v.val, v.best, v.inp⟩
    · refine ⟨?_, v.best, v.inp⟩
      simp only
      split
      · exact v.best
      · exact v.val
theorem stepP_v {p : Px} {bs : List Bl} (v : VIn p bs) : VIn (stepP p bs).1 (stepP p bs).2 := by
  have ho : sm (ownB p bs).inp := getD_sm v.inp _ _
  unfold stepP
  split
  · split
    · exact ⟨v.val, v.best, v.inp⟩
    · unfold writeP
      split
      · refine ⟨v.val, v.best, fun b hb => ?_⟩
        rcases List.mem_or_eq_of_mem_set hb with hb | rfl
        · exact v.inp b hb
        · exact v.val
      · refine ⟨v.val, ho, fun b hb => ?_⟩
        rcases List.mem_or_eq_of_mem_set hb with hb | rfl
        · exact v.inp b hb
        · exact ho
  · simp only
    unfold readP
    split
    · have hb := getD_sm v.inp (nx0 p).toNat p.ver
      unfold readB
      split
      · exact ⟨v.val, v.best, v.inp⟩
      · refine finP_v ⟨v.val, ?_, v.inp⟩
        simp only
        split
        · exact hb
        · exact v.best
    · exact finP_v ⟨v.val, v.best, v.inp⟩
theorem runE_v : ∀ (n : Nat) (s : ES), VIn s.p s.bs → VIn (runE n s).p (runE n s).bs := by
  intro n
  induction n with
  | zero => intro s v; exact v
  | succ n ih =>
    intro s v
    unfold runE
    split
    · exact v
    · exact ih _ (stepP_v v)
theorem blks_v (d : Disk) (h : Int) : ∀ b ∈ blks d h, sm b.inp := by
  have key : ∀ i, sm (rdB d h i).inp := by
    intro i
    unfold rdB
    cases hb : blF (rdL d.ss d.ps h (1 + i)) with
    | none => unfold sm; simp [zBl]
    | some b =>
      have := blF_ok hb
      simp [blkOK, isNum, inn] at this
      simp only [Option.getD_some]
      exact this.1.2
  intro b hb
  simp only [blks, List.mem_cons, List.not_mem_nil, or_false] at hb
  rcases hb with rfl | rfl | rfl | rfl <;> exact key _
theorem es0_v {d : Disk} {h owner gen : Int} (h1 : 0 ≤ owner ∧ owner ≤ 3) (h2 : 1 ≤ gen ∧ gen ≤ 1000000) : VIn (es0 d h owner gen).p (es0 d h owner gen).bs := by
  refine ⟨?_, ?_, blks_v d h⟩
  · unfold sm; simp only [es0, px0]; omega
  · unfold sm; simp [es0, px0]
end Go.Proofs.Ytccoeoppjcegnaa

namespace Go.Proofs.Ytccoeoppjcegnaa
open Go
set_option maxRecDepth 100000
set_option maxHeartbeats 4000000
set_option linter.unusedSimpArgs false
set_option linter.unusedVariables false
theorem ofV_old {b : Bl} {v : Int} (h : b.ver < v) : ofV b v = ⟨v, 0, 0, 0⟩ := by unfold ofV; rw [if_pos h]
theorem ofV_own (v m b i : Int) : ofV ⟨v, m, b, i⟩ v = ⟨v, m, b, i⟩ := by unfold ofV; rw [if_neg (by simp)]
/-- The steps of a ballot alone. -/
theorem alone (d : Disk) (h v B w : Int) (bs : List Bl) (hh : 0 ≤ h ∧ h ≤ 3) (hB : 0 < B) (hl : bs.length = 4) (hv : ∀ b ∈ bs, b.ver < v) :
    (runE 40 ⟨d, px0 h v B w, bs⟩).p.phase = 5 ∧ (runE 40 ⟨d, px0 h v B w, bs⟩).p.value = w ∧ (runE 40 ⟨d, px0 h v B w, bs⟩).d = putD (putD d h (1 + h) (blT ⟨v, B, 0, 0⟩)) h (1 + h) (blT ⟨v, B, B, w⟩) := by
  obtain ⟨b0, b1, b2, b3, rfl⟩ : ∃ b0 b1 b2 b3, bs = [b0, b1, b2, b3] := by
    match bs, hl with
    | [b0, b1, b2, b3], _ => exact ⟨b0, b1, b2, b3, rfl⟩
  have h0 := hv b0 (by simp); have h1 := hv b1 (by simp); have h2 := hv b2 (by simp); have h3 := hv b3 (by simp)
  have o0 := ofV_old h0; have o1 := ofV_old h1; have o2 := ofV_old h2; have o3 := ofV_old h3
  have ow := ofV_own v
  have n0 : ∀ m b i : Int, (⟨v, m, b, i⟩ : Bl) ≠ b0 := fun m b i e => by rw [← e] at h0; simp at h0
  have n1 : ∀ m b i : Int, (⟨v, m, b, i⟩ : Bl) ≠ b1 := fun m b i e => by rw [← e] at h1; simp at h1
  have n2 : ∀ m b i : Int, (⟨v, m, b, i⟩ : Bl) ≠ b2 := fun m b i e => by rw [← e] at h2; simp at h2
  have n3 : ∀ m b i : Int, (⟨v, m, b, i⟩ : Bl) ≠ b3 := fun m b i e => by rw [← e] at h3; simp at h3
  have hB0 : ¬ B = 0 := by omega
  have hB1 : ¬ B < 0 := by omega
  have hB2 : ¬ (0 = B) := by omega
  have hc : h = 0 ∨ h = 1 ∨ h = 2 ∨ h = 3 := by omega
  rcases hc with rfl | rfl | rfl | rfl
  · simp [runE, over, stE, stepP, px0, ownB, stopW, writeP, readP, readB, finP, nx0, o0, o1, o2, o3, ow, n0, n1, n2, n3, hB0, hB1, hB2]
  · simp [runE, over, stE, stepP, px0, ownB, stopW, writeP, readP, readB, finP, nx0, o0, o1, o2, o3, ow, n0, n1, n2, n3, hB0, hB1, hB2]
  · simp [runE, over, stE, stepP, px0, ownB, stopW, writeP, readP, readB, finP, nx0, o0, o1, o2, o3, ow, n0, n1, n2, n3, hB0, hB1, hB2]
  · simp [runE, over, stE, stepP, px0, ownB, stopW, writeP, readP, readB, finP, nx0, o0, o1, o2, o3, ow, n0, n1, n2, n3, hB0, hB1, hB2]
end Go.Proofs.Ytccoeoppjcegnaa

namespace Go.Proofs.Ytccoeoppjcegnaa
open Go
set_option maxRecDepth 100000
set_option maxHeartbeats 1000000
set_option linter.unusedSimpArgs false
set_option linter.unusedVariables false
theorem putD_sure (ss : List Tx) (h a : Int) (t : Tx) : putD ⟨ss, []⟩ h a t = ⟨ss.set a.toNat t, []⟩ := by
  simp [putD, settleD, landL, goes, sOf]
theorem ldrF_ldrT {x : Leader} (hx : ldrOK x = true) : ldrF (ldrT x) = some x := by
  have h2 := hx
  simp [ldrOK, inn] at h2
  have ho : openF (ldrT x) 6 = some [x.ver, x.owner + 1, x.gen] := by
    unfold ldrT
    refine open_seal (by decide) ?_
    simp [intsOK, isNum, inn]
    omega
  have hw : IntKind.i64.wrap (x.owner + 1 - 1) = x.owner := by rw [wrap_id (by omega)]; omega
  unfold ldrF
  rw [ho]
  simp only [hw]
  rw [if_pos hx]
theorem ldrT_len (x : Leader) : (ldrT x).length = 16 := by simp [ldrT, sealF_length]
theorem blF_blT {b : Bl} (hb : blkOK b = true) : blF (blT b) = some b := by
  have h2 := hb
  simp [blkOK, isNum, inn] at h2
  have ho : openF (blT b) 5 = some [b.ver, b.mbal, b.bal, b.inp] := by
    unfold blT
    refine open_seal (by decide) ?_
    simp [intsOK, isNum, inn]
    omega
  unfold blF
  rw [ho]
  simp only
  rw [if_pos hb]
theorem maxM_old (v : Int) : ∀ l : List Bl, (∀ b ∈ l, b.ver < v) → maxM v l 0 = 0 := by
  intro l
  induction l with
  | nil => intro _; rfl
  | cons b l ih =>
    intro h
    unfold maxM
    rw [ofV_old (h b (by simp))]
    simp only [Int.lt_irrefl, if_false]
    exact ih fun x hx => h x (by simp [hx])
theorem rdLd_sure (ss : List Tx) (h : Int) : rdLd ⟨ss, []⟩ h = (ldrF (ss.getD 0 [])).getD (noL 0) := rfl
theorem rdB_sure (ss : List Tx) (h i : Int) : rdB ⟨ss, []⟩ h i = (blF (ss.getD (1 + i).toNat [])).getD zBl := rfl
theorem set_ok {ss : List Tx} {n : Nat} {t : Tx} (hd : diskOK ⟨ss, []⟩ = true) (ht : t.length ≤ 80) : diskOK ⟨ss.set n t, []⟩ = true := by
  obtain ⟨a1, a2, a3, a4⟩ := diskOK_iff.1 hd
  refine diskOK_iff.2 ⟨by simpa using a1, fun s hs => ?_, a3, a4⟩
  rcases List.mem_or_eq_of_mem_set hs with hs | rfl
  · exact a2 s hs
  · exact ht
theorem elect_alone {ss : List Tx} {h owner gen : Int} (hd : diskOK ⟨ss, []⟩ = true) (hh : 0 ≤ h ∧ h ≤ 3) (ho : 0 ≤ owner ∧ owner ≤ 3) (hg : 1 ≤ gen ∧ gen ≤ 1000000) (hv : (rdLd ⟨ss, []⟩ h).ver + 1 ≤ 1000000)
    (hb : ∀ b ∈ blks ⟨ss, []⟩ h, b.ver < (rdLd ⟨ss, []⟩ h).ver + 1) :
    nextB h ((rdLd ⟨ss, []⟩ h).ver + 1) (blks ⟨ss, []⟩ h) ≤ 1000000 ∧
    electA ⟨ss, []⟩ h owner gen = (⟨(ss.set (1 + h).toNat (blT ⟨(rdLd ⟨ss, []⟩ h).ver + 1, 4 + h, 4 + h, 1024 * gen + owner⟩)).set 0 (ldrT ⟨(rdLd ⟨ss, []⟩ h).ver + 1, owner, gen⟩), []⟩, ⟨(rdLd ⟨ss, []⟩ h).ver + 1, owner, gen⟩, 0) ∧
    blkOK ⟨(rdLd ⟨ss, []⟩ h).ver + 1, 4 + h, 4 + h, 1024 * gen + owner⟩ = true ∧ ldrOK ⟨(rdLd ⟨ss, []⟩ h).ver + 1, owner, gen⟩ = true := by
  obtain ⟨v1, v2, v3⟩ := rdLd_ver ⟨ss, []⟩ h
  generalize hL : (rdLd ⟨ss, []⟩ h).ver + 1 = v at *
  have hB : nextB h v (blks ⟨ss, []⟩ h) = 4 + h := by
    unfold nextB
    rw [maxM_old v _ hb]
    simp
  obtain ⟨a1, a2, a3⟩ := alone ⟨ss, []⟩ h v (4 + h) (1024 * gen + owner) (blks ⟨ss, []⟩ h) hh (by omega) rfl hb
  have hs0 : es0 ⟨ss, []⟩ h owner gen = ⟨⟨ss, []⟩, px0 h v (4 + h) (1024 * gen + owner), blks ⟨ss, []⟩ h⟩ := by
    unfold es0; rw [hL, hB]
  have m1 : (1024 * gen + owner).tmod 1024 = owner := by rw [Int.tmod_eq_emod_of_nonneg (by omega)]; omega
  have m2 : (1024 * gen + owner).tdiv 1024 = gen := by rw [Int.tdiv_eq_ediv_of_nonneg (by omega)]; omega
  have hok : ldrOK ⟨v, owner, gen⟩ = true := by simp [ldrOK, inn]; omega
  refine ⟨by rw [hB]; omega, ?_, ?_, hok⟩
  · unfold electA
    rw [hs0, hL]
    generalize runE 40 ⟨⟨ss, []⟩, px0 h v (4 + h) (1024 * gen + owner), blks ⟨ss, []⟩ h⟩ = r at *
    unfold endE
    rw [a1, a2, m1, m2, if_neg (by simp [hok]), a3, putD_sure, putD_sure, putD_sure]
    simp
  · simp [blkOK, isNum, inn]; omega
end Go.Proofs.Ytccoeoppjcegnaa

namespace Go.Proofs.Ytccoeoppjcegnaa
open Go
set_option maxRecDepth 100000
set_option maxHeartbeats 2000000
set_option linter.unusedSimpArgs false
set_option linter.unusedVariables false
/-! Texts that say little. -/
structure Mild (t : Tx) : Prop where
  d : ∀ x, dltF t = some x → x.gen ≤ 3
  l : ∀ x, ldrF t = some x → x.ver ≤ 3
  b : ∀ x, blF t = some x → x.mbal ≤ 11
theorem openF_kind {t : Tx} {k : Int} (h : ((t.getD 0 0).toNat : Int) ≠ k) : openF t k = none := by
  unfold openF
  rw [if_neg]
  exact fun hc => h hc.2.1
theorem mild_of {t : Tx} (h9 : ((t.getD 0 0).toNat : Int) ≠ 9) (h6 : ((t.getD 0 0).toNat : Int) ≠ 6) (h5 : ((t.getD 0 0).toNat : Int) ≠ 5) : Mild t := by
  refine ⟨fun x hx => ?_, fun x hx => ?_, fun x hx => ?_⟩
  · unfold dltF at hx; rw [openF_kind h9] at hx; cases hx
  · unfold ldrF at hx; rw [openF_kind h6] at hx; cases hx
  · unfold blF at hx; rw [openF_kind h5] at hx; cases hx
theorem mild_nil : Mild [] := mild_of (by decide) (by decide) (by decide)
theorem seal_first (k : Int) (l : List Int) (hk : 0 ≤ k ∧ k < 256) : (((sealF k l).getD 0 0).toNat : Int) = k := by
  have : (sealF k l).getD 0 0 = byteOf k := by simp [sealF]
  rw [this]; exact byteOf_small hk
theorem mild_dlt {x : Delta} (hx : dltOK x = true) (hg : x.gen ≤ 3) : Mild (dltT x) := by
  have hf : (((dltT x).getD 0 0).toNat : Int) = 9 := seal_first 9 _ (by omega)
  have h2 := hx
  simp [dltOK, inn] at h2
  refine ⟨fun y hy => ?_, fun y hy => ?_, fun y hy => ?_⟩
  · have ho : openF (dltT x) 9 = some [x.host, x.gen, x.stamp] := by
      unfold dltT
      refine open_seal (by decide) ?_
      simp [intsOK, isNum, inn]; omega
    unfold dltF at hy
    rw [ho] at hy
    simp only at hy
    rw [if_pos hx] at hy
    injection hy with hy; subst hy; exact hg
  · unfold ldrF at hy; rw [openF_kind (by rw [hf]; decide)] at hy; cases hy
  · unfold blF at hy; rw [openF_kind (by rw [hf]; decide)] at hy; cases hy
theorem mild_ldr {x : Leader} (hx : ldrOK x = true) (hg : x.ver ≤ 3) : Mild (ldrT x) := by
  have hf : (((ldrT x).getD 0 0).toNat : Int) = 6 := seal_first 6 _ (by omega)
  refine ⟨fun y hy => ?_, fun y hy => ?_, fun y hy => ?_⟩
  · unfold dltF at hy; rw [openF_kind (by rw [hf]; decide)] at hy; cases hy
  · rw [ldrF_ldrT hx] at hy
    injection hy with hy; subst hy; exact hg
  · unfold blF at hy; rw [openF_kind (by rw [hf]; decide)] at hy; cases hy
theorem mild_bl {x : Bl} (hx : blkOK x = true) (hg : x.mbal ≤ 11) : Mild (blT x) := by
  have hf : (((blT x).getD 0 0).toNat : Int) = 5 := seal_first 5 _ (by omega)
  refine ⟨fun y hy => ?_, fun y hy => ?_, fun y hy => ?_⟩
  · unfold dltF at hy; rw [openF_kind (by rw [hf]; decide)] at hy; cases hy
  · unfold ldrF at hy; rw [openF_kind (by rw [hf]; decide)] at hy; cases hy
  · rw [blF_blT hx] at hy
    injection hy with hy; subst hy; exact hg
theorem someF_letters : ∀ (l : List Unit) (a : Tx × Src) (k : Nat), SrcOK a.2 k → (∀ c ∈ a.1, 97 ≤ c.toNat) → ∀ c ∈ (someF l a).1, 97 ≤ c.toNat := by
  intro l
  induction l with
  | nil => intro a k _ h; exact h
  | cons u l ih =>
    intro a k g h
    obtain ⟨g1, a1, b1⟩ := nextF_ok 26 g
    unfold someF
    refine ih _ _ g1 ?_
    intro c hc
    simp only [List.mem_append, List.mem_singleton] at hc
    rcases hc with hc | rfl
    · exact h c hc
    · have := byteOf_small (k := 97 + (nextF 26 a.2).1) (by omega)
      omega
theorem mild_letters {t : Tx} (h : ∀ c ∈ t, 97 ≤ c.toNat) : Mild t := by
  cases t with
  | nil => exact mild_nil
  | cons c t =>
    have := h c (by simp)
    exact mild_of (by simp; omega) (by simp; omega) (by simp; omega)
/-- A drawn disk: its texts are mild, its writes in their places. -/
structure Drawn (d : Disk) (n : Nat) : Prop where
  g : Good d n
  s : ∀ t ∈ d.ss, Mild t
  p : ∀ x ∈ d.ps, Mild x.data
theorem landL_mild (h : Int) (lose : Bool) : ∀ (ps : List Io) (k : Int) (ss : List Tx), (∀ x ∈ ps, Mild x.data) → (∀ s ∈ ss, Mild s) → ∀ s ∈ (landL h lose ps k ss).2.2, Mild s := by
  intro ps
  induction ps with
  | nil => intro k ss _ h; exact h
  | cons x ps ih =>
    intro k ss hx hs
    unfold landL
    split
    · refine ih _ _ (fun y hy => hx y (by simp [hy])) ?_
      intro s hm
      unfold sOf at hm
      split at hm
      · rcases List.mem_or_eq_of_mem_set hm with hm | rfl
        · exact hs s hm
        · exact hx x (by simp)
      · exact hs s hm
    · exact ih _ _ (fun y hy => hx y (by simp [hy])) hs
theorem Drawn.settle {d : Disk} {n : Nat} (g : Drawn d n) (h k : Int) (lose : Bool) : Drawn (settleD d h k lose) n :=
  ⟨g.g.settle h k lose, landL_mild h lose d.ps k d.ss g.p g.s, landL_all h lose (fun x => Mild x.data) d.ps k d.ss g.p⟩
theorem Drawn.put {d : Disk} {n : Nat} (g : Drawn d n) (x : Io) (ha : 0 ≤ x.at_ ∧ x.at_.toNat < 64) (hm : Mild x.data) : Drawn ⟨d.ss, d.ps ++ [x]⟩ (n + 1) := by
  refine ⟨⟨g.g.ss, by have := g.g.ps; simp; omega, fun y hy => ?_⟩, g.s, fun y hy => ?_⟩
  · simp only [List.mem_append, List.mem_singleton] at hy
    rcases hy with hy | rfl
    · exact g.g.at_ y hy
    · exact ha
  · simp only [List.mem_append, List.mem_singleton] at hy
    rcases hy with hy | rfl
    · exact g.p y hy
    · exact hm
theorem Drawn.up {d : Disk} {n m : Nat} (g : Drawn d n) (h : n ≤ m) : Drawn d m := ⟨⟨g.g.ss, by have := g.g.ps; omega, g.g.at_⟩, g.s, g.p⟩
/-! Disks. -/
def sm1 (s : Src) : Int × Src := nextF 4 s
def ioF (s : Src) : Io × Src :=
  (⟨(nextF 4 s).1, (nextF 8 (nextF 4 s).2).1, (someF (List.replicate (nextF 5 (nextF 8 (nextF 4 s).2).2).1.toNat ()) ([], (nextF 5 (nextF 8 (nextF 4 s).2).2).2)).1⟩,
   (someF (List.replicate (nextF 5 (nextF 8 (nextF 4 s).2).2).1.toNat ()) ([], (nextF 5 (nextF 8 (nextF 4 s).2).2).2)).2)
def dkF : List Unit → Disk × Src → Disk × Src
  | [], a => a
  | _ :: r, a => dkF r (if (nextF 5 a.2).1 = 0 then (settleD a.1 (nextF 4 (nextF 5 a.2).2).1 200 false, (nextF 4 (nextF 5 a.2).2).2) else (⟨a.1.ss, a.1.ps ++ [(ioF (nextF 5 a.2).2).1]⟩, (ioF (nextF 5 a.2).2).2))
theorem ioF_ok {s : Src} {k : Nat} (g : SrcOK s k) : SrcOK (ioF s).2 (k + 30) ∧ 0 ≤ (ioF s).1.host ∧ (ioF s).1.host ≤ 3 ∧ 0 ≤ (ioF s).1.at_ ∧ (ioF s).1.at_ ≤ 7 ∧ (ioF s).1.data.length ≤ 4 ∧ Mild (ioF s).1.data := by
  obtain ⟨g1, a1, b1⟩ := nextF_ok 4 g
  obtain ⟨g2, a2, b2⟩ := nextF_ok 8 g1
  obtain ⟨g3, a3, b3⟩ := nextF_ok 5 g2
  obtain ⟨g4, hl⟩ := someF_ok (List.replicate (nextF 5 (nextF 8 (nextF 4 s).2).2).1.toNat ()) ([], (nextF 5 (nextF 8 (nextF 4 s).2).2).2) _ g3
  have hm := someF_letters (List.replicate (nextF 5 (nextF 8 (nextF 4 s).2).2).1.toNat ()) ([], (nextF 5 (nextF 8 (nextF 4 s).2).2).2) _ g3 (by simp)
  unfold ioF
  refine ⟨g4.mono (by simp; omega), a1, by simp only; omega, a2, by simp only; omega, ?_, mild_letters hm⟩
  simp only
  rw [hl]; simp; omega
theorem dkF_ok : ∀ (l : List Unit) (a : Disk × Src) (k n : Nat), SrcOK a.2 k → Drawn a.1 n → SrcOK (dkF l a).2 (k + 40 * l.length) ∧ Drawn (dkF l a).1 (n + l.length) := by
  intro l
  induction l with
  | nil => intro a k n g h; exact ⟨g, h⟩
  | cons u l ih =>
    intro a k n g h
    obtain ⟨g1, a1, b1⟩ := nextF_ok 5 g
    unfold dkF
    simp only [List.length_cons]
    split
    · obtain ⟨g2, a2, b2⟩ := nextF_ok 4 g1
      obtain ⟨i1, i2⟩ := ih (settleD a.1 (nextF 4 (nextF 5 a.2).2).1 200 false, (nextF 4 (nextF 5 a.2).2).2) (k + 3 + 3) n g2 (h.settle _ _ _)
      exact ⟨i1.mono (by omega), i2.up (by omega)⟩
    · obtain ⟨g2, c1, c2, c3, c4, c5, c6⟩ := ioF_ok g1
      obtain ⟨i1, i2⟩ := ih (⟨a.1.ss, a.1.ps ++ [(ioF (nextF 5 a.2).2).1]⟩, (ioF (nextF 5 a.2).2).2) (k + 3 + 30) (n + 1) g2 (h.put _ (by omega) c6)
      exact ⟨i1.mono (by omega), i2.up (by omega)⟩
theorem drawn64 : Drawn d64 0 := ⟨⟨by decide, by decide, by intro x hx; cases hx⟩, by intro t ht; simp [d64, E64] at ht; subst ht; exact mild_nil, by intro x hx; cases hx⟩
theorem l01New_E : E CX 82 [] [] = some { val := .agg [.ref [0, 0, 0, 0] 0 64, .ref [1, 0, 0, 0] 0 0], own := [⟨false, 9, 1, List.replicate 64 (.str [])⟩, ⟨false, 154, 3, []⟩] } := by
  refine E_fin Try.f82 _ an82 rfl rfl rfl Try.func82 rfl (by kernel_rfl) ?_
  simp [go_sem, -List.reduceReplicate]
/-- An answer that is a disk of rows of its own. -/
def ownDisk (d : Disk) : AV := .agg [.ref [0, 0, 0, 0] 0 d.ss.length, .ref [1, 0, 0, 0] 0 d.ps.length]
def ownRows (d : Disk) : List Blk := [⟨false, 9, 1, d.ss.map .str⟩, ⟨false, 154, 3, d.ps.map eIo⟩]
def dkD (s : Src) : Disk × Src := dkF (List.replicate (nextF 20 s).1.toNat ()) (d64, (nextF 20 s).2)
theorem dkD_ok {s : Src} {k : Nat} (g : SrcOK s k) : SrcOK (dkD s).2 (k + 1000) ∧ Drawn (dkD s).1 20 := by
  obtain ⟨g1, a1, b1⟩ := nextF_ok 20 g
  obtain ⟨h1, h2⟩ := dkF_ok (List.replicate (nextF 20 s).1.toNat ()) (d64, (nextF 20 s).2) _ 0 g1 drawn64
  unfold dkD
  simp only [List.length_replicate] at h1 h2
  exact ⟨h1.mono (by omega), h2.up (by omega)⟩
theorem disk_E (s : Src) (k : Nat) (hk : k ≤ 500000000) (g : SrcOK s k) : E CX 197 [.ptr [0] 0 0] [([0], eSrc s)] = some { val := ownDisk (dkD s).1, io := [eSrc (dkD s).2], own := ownRows (dkD s).1 } := by
  obtain ⟨g1, a1, b1⟩ := nextF_ok 20 g
  have e1 := next_E 20 s k (by omega) g
  unfold dkD
  generalize nextF 20 s = u at *
  obtain ⟨v, s1⟩ := u
  simp only at g1 a1 b1
  have hl : (List.replicate v.toNat ()).length = v.toNat := by simp
  generalize List.replicate v.toNat () = l at *
  have hfin := dkF_ok l (d64, s1) _ 0 g1 drawn64
  have e0 := l01New_E
  have hE : E64.map AV.str = List.replicate 64 (.str []) := by simp [E64, -List.reduceReplicate]
  refine E_fin Try.f197 _ an197 rfl rfl rfl Try.func197 rfl (by kernel_rfl) ?_
  simp only [eSrc] at e1
  simp [go_sem, eSrc, e0, e1, -List.reduceReplicate]
  refine loop_for (fun X => fin CX _ _ X = _) l (fun n (a : Disk × Src) => SrcOK a.2 (k + 3 + 40 * n) ∧ Drawn a.1 n) (fun n a => ⟨SS [(0, .ptr [0] 0 0), (2, .ptr [2] 0 0), (3, .ptr [3] 0 0), (4, .int .i64 (v - n))], HS [([0], eSrc a.2), ([2], ⟨true, 32, 2, [.agg [.nil, .nil]]⟩), ([3], ⟨true, 32, 2, [eDisk a.1]⟩)]⟩)
    (fun r n a => (.exit 0, ⟨SS [(2, .ptr [2] 0 0), (3, .ptr [3] 0 0)], HS [([2], ⟨true, 32, 2, [.agg [.nil, .nil]]⟩), ([3], ⟨true, 32, 2, [eDisk (dkF r a).1]⟩), ([0], eSrc (dkF r a).2)]⟩)) (d64, s1) ⟨g1, drawn64⟩ ?_ ?_ ?_ ?_ ?_
  · simp [go_sem, eSrc, eDisk, d64, hE, -List.reduceReplicate]
  · intro R n a x r hn hx hd hI hR
    obtain ⟨hI1, hI2⟩ := hI
    have e2 := next_E 5 a.2 (k + 3 + 40 * n) (by omega) hI1
    obtain ⟨g2, a2, b2⟩ := nextF_ok 5 hI1
    have e3 := next_E 4 (nextF 5 a.2).2 (k + 3 + 40 * n + 3) (by omega) g2
    obtain ⟨g3, a3, b3⟩ := nextF_ok 4 g2
    have e4 := next_E 8 (nextF 4 (nextF 5 a.2).2).2 (k + 3 + 40 * n + 3 + 3) (by omega) g3
    obtain ⟨g4, a4, b4⟩ := nextF_ok 8 g3
    have e5 := next_E 5 (nextF 8 (nextF 4 (nextF 5 a.2).2).2).2 (k + 3 + 40 * n + 3 + 3 + 3) (by omega) g4
    obtain ⟨g5, a5, b5⟩ := nextF_ok 5 g4
    have e6 := some_E (nextF 5 (nextF 8 (nextF 4 (nextF 5 a.2).2).2).2).1.toNat (nextF 5 (nextF 8 (nextF 4 (nextF 5 a.2).2).2).2).2 (k + 3 + 40 * n + 3 + 3 + 3 + 3) (by omega) (by omega) g5
    rw [show (((nextF 5 (nextF 8 (nextF 4 (nextF 5 a.2).2).2).2).1.toNat : Nat) : Int) = (nextF 5 (nextF 8 (nextF 4 (nextF 5 a.2).2).2).2).1 by omega] at e6
    by_cases c : (nextF 5 a.2).1 = 0
    · have hgd := hI2.g
      have e7 := l01Flush_E a.1 (nextF 4 (nextF 5 a.2).2).1 ⟨hgd.ss, by have := hgd.ps; omega, hgd.at_⟩
      have := hR (settleD a.1 (nextF 4 (nextF 5 a.2).2).1 200 false, (nextF 4 (nextF 5 a.2).2).2) ⟨g3.mono (by omega), (hI2.settle _ _ _).up (by omega)⟩ (by simp [dkF, c])
      generalize settleD a.1 (nextF 4 (nextF 5 a.2).2).1 200 false = sd at *
      generalize nextF 4 (nextF 5 a.2).2 = x4 at *
      generalize nextF 5 a.2 = x5 at *
      simp only [eSrc] at e2 e3
      simp only [eDisk] at e7
      simp [go_sem, eSrc, eDisk, show v - ((n : Int) + 1) = v - n - 1 by omega] at this
      simp [go_sem, eSrc, eDisk, e2, e3, e7, c, show (n : Int) < v by omega, show (0 : Int) < v - n by omega, wrap_id (n := v - (n : Int) - 1) (by omega)]
      exact this
    · have hio := ioF_ok g2
      have e7 := l01Write_E a.1 (ioF (nextF 5 a.2).2).1 (by have := hI2.g.ps; omega)
      have := hR (⟨a.1.ss, a.1.ps ++ [(ioF (nextF 5 a.2).2).1]⟩, (ioF (nextF 5 a.2).2).2) ⟨hio.1.mono (by omega), (hI2.put _ (by omega) hio.2.2.2.2.2.2).up (by omega)⟩ (by simp [dkF, c])
      unfold ioF at this e7
      generalize someF (List.replicate (nextF 5 (nextF 8 (nextF 4 (nextF 5 a.2).2).2).2).1.toNat ()) ([], (nextF 5 (nextF 8 (nextF 4 (nextF 5 a.2).2).2).2).2) = y at *
      generalize nextF 5 (nextF 8 (nextF 4 (nextF 5 a.2).2).2).2 = x3 at *
      generalize nextF 8 (nextF 4 (nextF 5 a.2).2).2 = x8 at *
      generalize nextF 4 (nextF 5 a.2).2 = x4 at *
      generalize nextF 5 a.2 = x5 at *
      simp only [eSrc] at e2 e3 e4 e5 e6
      simp only [eDisk, eIo] at e7
      try simp at e7
      simp [go_sem, eSrc, eDisk, eIo, show v - ((n : Int) + 1) = v - n - 1 by omega] at this
      simp [go_sem, eSrc, eDisk, eIo, e2, e3, e4, e5, e6, e7, c, show (n : Int) < v by omega, show (0 : Int) < v - n by omega, wrap_id (n := v - (n : Int) - 1) (by omega)]
      exact this
  · intro a hI
    have : v - (l.length : Int) = 0 := by omega
    simp [go_sem, dkF, eSrc, eDisk, this]
  · intro _; simp
  · have e8 := l01Own_E (dkF l (d64, s1)).1 (by have := hfin.2.g.ss; omega) (by have := hfin.2.g.ps; omega)
    simp only [eDisk] at e8
    simp [go_sem, eSrc, eDisk, e8, ownDisk, ownRows]
end Go.Proofs.Ytccoeoppjcegnaa

namespace Go.Proofs.Ytccoeoppjcegnaa
open Go
set_option maxRecDepth 100000
set_option maxHeartbeats 2000000
set_option linter.unusedSimpArgs false
set_option linter.unusedVariables false
theorem chance_E (m : Int) (s : Src) (k : Nat) (hk : k ≤ 800000000) (hm : 0 ≤ m ∧ m ≤ 1000) (g : SrcOK s k) : E CX 164 [.ptr [0] 0 0, .int .i64 m] [([0], eSrc s)] = some { val := .bool ((nextF m s).1 == m - 1), io := [eSrc (nextF m s).2] } := by
  have e1 := next_E m s k (by omega) g
  refine E_fin Try.f164 _ an164 rfl rfl rfl Try.func164 rfl (by kernel_rfl) ?_
  generalize nextF m s = u at *
  simp only [eSrc] at e1
  simp [go_sem, eSrc, e1, wrap_id (n := m - 1) (by omega)]
def dltG (s : Src) : Delta × Src := (⟨(nextF 4 s).1, 1 + (nextF 3 (nextF 4 s).2).1, (nextF 20 (nextF 3 (nextF 4 s).2).2).1⟩, (nextF 20 (nextF 3 (nextF 4 s).2).2).2)
theorem dltG_ok {s : Src} {k : Nat} (g : SrcOK s k) : SrcOK (dltG s).2 (k + 9) ∧ dltOK (dltG s).1 = true ∧ (dltG s).1.gen ≤ 3 ∧ 0 ≤ (dltG s).1.host ∧ (dltG s).1.host ≤ 3 := by
  obtain ⟨g1, a1, b1⟩ := nextF_ok 4 g
  obtain ⟨g2, a2, b2⟩ := nextF_ok 3 g1
  obtain ⟨g3, a3, b3⟩ := nextF_ok 20 g2
  unfold dltG
  refine ⟨g3.mono (by omega), ?_, by simp only; omega, by simp only; omega, by simp only; omega⟩
  simp [dltOK, inn]; omega
theorem dlt_E (s : Src) (k : Nat) (hk : k ≤ 700000000) (g : SrcOK s k) : E CX 198 [.ptr [0] 0 0] [([0], eSrc s)] = some { val := eDelta (dltG s).1, io := [eSrc (dltG s).2] } := by
  obtain ⟨g1, a1, b1⟩ := nextF_ok 4 g
  obtain ⟨g2, a2, b2⟩ := nextF_ok 3 g1
  have e1 := next_E 4 s k (by omega) g
  have e2 := next_E 3 (nextF 4 s).2 (k + 3) (by omega) g1
  have e3 := next_E 20 (nextF 3 (nextF 4 s).2).2 (k + 3 + 3) (by omega) g2
  refine E_fin Try.f198 _ an198 rfl rfl rfl Try.func198 rfl (by kernel_rfl) ?_
  unfold dltG
  generalize nextF 20 (nextF 3 (nextF 4 s).2).2 = x3 at *
  generalize nextF 3 (nextF 4 s).2 = x2 at *
  generalize nextF 4 s = x1 at *
  simp only [eSrc] at e1 e2 e3
  simp [go_sem, eSrc, eDelta, e1, e2, e3, wrap_id (n := 1 + x2.1) (by omega)]
/-- A drawn disk whose first sector may be cut off. -/
structure Cut where
  ss : List Tx
  o : Nat
  ps : List Io
def cutV (c : Cut) : AV := .agg [.ref [0, 0, 0, 0] c.o (64 - c.o), .ref [1, 0, 0, 0] 0 c.ps.length]
def cutR (c : Cut) : List Blk := [⟨false, 9, 1, c.ss.map .str⟩, ⟨false, 154, 3, c.ps.map eIo⟩]
structure CutOK (c : Cut) : Prop where
  len : c.ss.length = 64
  o : c.o ≤ 1
  s : ∀ t ∈ c.ss, Mild t
  p : c.ps.length ≤ 1000
theorem anyDisk_E (s : Src) (k : Nat) (hk : k ≤ 400000000) (g : SrcOK s k) : ∃ c s', E CX 199 [.ptr [0] 0 0] [([0], eSrc s)] = some { val := cutV c, io := [eSrc s'], own := cutR c } ∧ CutOK c ∧ SrcOK s' (k + 2000) := by
  have e1 := disk_E s k (by omega) g
  obtain ⟨g1, hd⟩ := dkD_ok g
  have e2 := next_E 12 (dkD s).2 (k + 1000) (by omega) g1
  obtain ⟨g2, a2, b2⟩ := nextF_ok 12 g1
  have e3 := some_E 81 (nextF 12 (dkD s).2).2 (k + 1000 + 3) (by omega) (by omega) g2
  obtain ⟨g3, hl3⟩ := someF_ok (List.replicate 81 ()) ([], (nextF 12 (dkD s).2).2) _ g2
  have hm3 := someF_letters (List.replicate 81 ()) ([], (nextF 12 (dkD s).2).2) _ g2 (by simp)
  have d1 := hd.g.ss; have d2 := hd.g.ps; have d3 := hd.s
  simp only [List.length_replicate] at g3
  generalize someF (List.replicate 81 ()) ([], (nextF 12 (dkD s).2).2) = y at *
  generalize nextF 12 (dkD s).2 = x at *
  generalize dkD s = u at *
  obtain ⟨⟨ss, ps⟩, s1⟩ := u
  obtain ⟨v, s2⟩ := x
  simp only at d1 d2 d3 a2 b2 g2
  simp only [eSrc, ownDisk, ownRows] at e1
  simp only [eSrc] at e2 e3
  rw [show ((81 : Nat) : Int) = 81 from rfl] at e3
  rw [d1] at e1
  by_cases c0 : v = 0
  · refine ⟨⟨ss, 1, ps⟩, s2, ?_, ⟨d1, by simp, d3, by simp only; omega⟩, g2.mono (by omega)⟩
    refine E_fin Try.f199 _ an199 rfl rfl rfl Try.func199 rfl (by kernel_rfl) ?_
    simp [go_sem, eSrc, cutV, cutR, e1, e2, c0, d1]
  · by_cases c1 : v = 1
    · refine ⟨⟨ss, 0, ps ++ [⟨4, 0, []⟩]⟩, s2, ?_, ⟨d1, by simp, d3, by simp; omega⟩, g2.mono (by omega)⟩
      refine E_fin Try.f199 _ an199 rfl rfl rfl Try.func199 rfl (by kernel_rfl) ?_
      simp [go_sem, eSrc, eIo, cutV, cutR, e1, e2, c0, c1, d1, show ps.length + 1 ≤ 1073741824 by omega]
    · by_cases c2 : v = 2
      · refine ⟨⟨ss.set 0 y.1, 0, ps⟩, y.2, ?_, ⟨by simp [d1], by simp, fun t ht => ?_, by simp only; omega⟩, g3.mono (by omega)⟩
        · refine E_fin Try.f199 _ an199 rfl rfl rfl Try.func199 rfl (by kernel_rfl) ?_
          simp [go_sem, eSrc, cutV, cutR, e1, e2, e3, c0, c1, c2, d1, List.map_set]
        · rcases List.mem_or_eq_of_mem_set ht with ht | rfl
          · exact d3 t ht
          · exact mild_letters hm3
      · refine ⟨⟨ss, 0, ps⟩, s2, ?_, ⟨d1, by simp, d3, by simp only; omega⟩, g2.mono (by omega)⟩
        refine E_fin Try.f199 _ an199 rfl rfl rfl Try.func199 rfl (by kernel_rfl) ?_
        simp [go_sem, eSrc, cutV, cutR, e1, e2, c0, c1, c2, d1]
def dpF : List Unit → Disk × Src → Disk × Src
  | [], a => a
  | _ :: r, a => dpF r (putD a.1 (dltG a.2).1.host (5 + (dltG a.2).1.host) (dltT (dltG a.2).1), (dltG a.2).2)
theorem putD_drawn {d : Disk} {n : Nat} (g : Drawn d n) (h a : Int) (t : Tx) (ha : 0 ≤ a ∧ a.toNat < 64) (hm : Mild t) : Drawn (putD d h a t) (n + 1) :=
  (g.put ⟨h, a, t⟩ ha hm).settle h 201 false
theorem dpF_ok : ∀ (l : List Unit) (a : Disk × Src) (k n : Nat), SrcOK a.2 k → Drawn a.1 n → SrcOK (dpF l a).2 (k + 9 * l.length) ∧ Drawn (dpF l a).1 (n + l.length) := by
  intro l
  induction l with
  | nil => intro a k n g h; exact ⟨g, h⟩
  | cons u l ih =>
    intro a k n g h
    obtain ⟨g1, q1, q2, q3, q4⟩ := dltG_ok g
    obtain ⟨i1, i2⟩ := ih (putD a.1 (dltG a.2).1.host (5 + (dltG a.2).1.host) (dltT (dltG a.2).1), (dltG a.2).2) (k + 9) (n + 1) g1 (putD_drawn h _ _ _ (by omega) (mild_dlt q1 q2))
    unfold dpF
    simp only [List.length_cons]
    exact ⟨i1.mono (by omega), i2.up (by omega)⟩
theorem deltaDisk_E (s : Src) (k : Nat) (hk : k ≤ 300000000) (g : SrcOK s k) : ∃ c s', E CX 163 [.ptr [0] 0 0] [([0], eSrc s)] = some { val := cutV c, io := [eSrc s'], own := cutR c } ∧ CutOK c ∧ SrcOK s' (k + 4000) := by
  have e1 := disk_E s k (by omega) g
  obtain ⟨g1, hd⟩ := dkD_ok g
  have e2 := next_E 4 (dkD s).2 (k + 1000) (by omega) g1
  obtain ⟨g2, a2, b2⟩ := nextF_ok 4 g1
  generalize nextF 4 (dkD s).2 = x at *
  generalize dkD s = u at *
  obtain ⟨d0, s1⟩ := u
  obtain ⟨v, s2⟩ := x
  simp only at a2 b2 g2 hd
  have hl : (List.replicate v.toNat ()).length = v.toNat := by simp
  generalize List.replicate v.toNat () = l at *
  obtain ⟨g3, hd3⟩ := dpF_ok l (d0, s2) _ 20 g2 hd
  have e3 := chance_E 12 (dpF l (d0, s2)).2 (k + 1000 + 3 + 9 * l.length) (by omega) (by omega) g3
  obtain ⟨g4, a4, b4⟩ := nextF_ok 12 g3
  obtain ⟨c, s', e4, hc, g5⟩ := anyDisk_E (nextF 12 (dpF l (d0, s2)).2).2 (k + 1000 + 3 + 9 * l.length + 3) (by omega) g4
  have e5 := l01Own_E (dpF l (d0, s2)).1 (by have := hd3.g.ss; omega) (by have := hd3.g.ps; omega)
  have f1 := hd3.g.ss; have f2 := hd3.g.ps
  have key : ∀ (r : Res), (∀ (b : Bool), ((nextF 12 (dpF l (d0, s2)).2).1 == 12 - 1) = b → r = if b then { val := cutV c, io := [eSrc s'], own := cutR c } else { val := cutV ⟨(dpF l (d0, s2)).1.ss, 0, (dpF l (d0, s2)).1.ps⟩, io := [eSrc (nextF 12 (dpF l (d0, s2)).2).2], own := cutR ⟨(dpF l (d0, s2)).1.ss, 0, (dpF l (d0, s2)).1.ps⟩ }) → E CX 163 [.ptr [0] 0 0] [([0], eSrc s)] = some r := by
    intro r hr
    refine E_fin Try.f163 _ an163 rfl rfl rfl Try.func163 rfl (by kernel_rfl) ?_
    have dss := hd.g.ss; have dps := hd.g.ps
    simp only [eSrc, ownDisk, ownRows] at e1
    rw [dss] at e1
    simp only [eSrc] at e2
    simp [go_sem, eSrc, e1, e2, dss]
    refine loop_for (fun X => fin CX _ _ X = _) l (fun n (a : Disk × Src) => SrcOK a.2 (k + 1000 + 3 + 9 * n) ∧ Drawn a.1 (20 + n)) (fun n a => ⟨SS [(0, .ptr [0] 0 0), (2, .ptr [2] 0 0), (3, .ptr [3] 0 0), (4, .int .i64 (v - n))], HS [([0], eSrc a.2), ([2], ⟨true, 32, 2, [.agg [.nil, .nil]]⟩), ([3], ⟨true, 32, 2, [eDisk a.1]⟩)]⟩)
      (fun r n a => (.exit 0, ⟨SS [(0, .ptr [0] 0 0), (2, .ptr [2] 0 0), (3, .ptr [3] 0 0)], HS [([0], eSrc (dpF r a).2), ([2], ⟨true, 32, 2, [.agg [.nil, .nil]]⟩), ([3], ⟨true, 32, 2, [eDisk (dpF r a).1]⟩)]⟩)) (d0, s2) ⟨g2, hd⟩ ?_ ?_ ?_ ?_ ?_
    · simp [go_sem, eSrc, eDisk, List.take_of_length_le, dss]
    · intro R n a x r hn hx hd' hI hR
      obtain ⟨hI1, hI2⟩ := hI
      have e6 := dlt_E a.2 _ (by omega) hI1
      obtain ⟨q0, q1, q2, q3, q4⟩ := dltG_ok hI1
      have hgd := hI2.g
      have e7 := l04Put_E a.1 (dltG a.2).1 ⟨hgd.ss, by have := hgd.ps; omega, hgd.at_⟩ (by have := hgd.ps; omega) ⟨q3, q4⟩
      have := hR (putD a.1 (dltG a.2).1.host (5 + (dltG a.2).1.host) (dltT (dltG a.2).1), (dltG a.2).2) ⟨q0.mono (by omega), (putD_drawn hI2 _ _ _ (by omega) (mild_dlt q1 q2)).up (by omega)⟩ (by simp [dpF])
      generalize putD a.1 (dltG a.2).1.host (5 + (dltG a.2).1.host) (dltT (dltG a.2).1) = pd at *
      generalize dltG a.2 = w at *
      simp only [eSrc, eDelta] at e6
      simp only [eDisk, eDelta] at e7
      simp [go_sem, eSrc, eDisk, show v - ((n : Int) + 1) = v - n - 1 by omega] at this
      simp [go_sem, eSrc, eDisk, eDelta, e6, e7, show (n : Int) < v by omega, show (0 : Int) < v - n by omega, wrap_id (n := v - (n : Int) - 1) (by omega)]
      exact this
    · intro a hI
      have : v - (l.length : Int) = 0 := by omega
      simp [go_sem, dpF, eSrc, eDisk, this]
    · intro _; simp
    · generalize dpF l (d0, s2) = z at *
      generalize nextF 12 z.2 = t at *
      simp only [eSrc] at e3 e4
      simp only [eDisk] at e5
      have h := hr _ rfl
      cases hb : (t.1 == 12 - 1)
      · rw [hb] at e3 h
        subst h
        simp [go_sem, eSrc, eDisk, e3, e5, cutV, cutR, f1]
      · rw [hb] at e3 h
        subst h
        have hc1 := hc.len; have hc2 := hc.o
        simp [go_sem, eSrc, eDisk, e3, e4, cutV, cutR]
  cases hb : ((nextF 12 (dpF l (d0, s2)).2).1 == 12 - 1)
  · exact ⟨⟨(dpF l (d0, s2)).1.ss, 0, (dpF l (d0, s2)).1.ps⟩, _, key _ (fun b h => by rw [hb] at h; subst h; rfl), ⟨f1, by simp, hd3.s, by simp only; omega⟩, g4.mono (by omega)⟩
  · exact ⟨c, s', key _ (fun b h => by rw [hb] at h; subst h; rfl), hc, g5.mono (by omega)⟩
end Go.Proofs.Ytccoeoppjcegnaa

namespace Go.Proofs.Ytccoeoppjcegnaa
open Go
set_option maxRecDepth 100000
set_option maxHeartbeats 2000000
set_option linter.unusedSimpArgs false
set_option linter.unusedVariables false
def ldrG (s : Src) : Leader × Src :=
  if (nextF 3 s).1 == 3 - 1 then (⟨(nextF 3 (nextF 3 s).2).1, -1, 0⟩, (nextF 3 (nextF 3 s).2).2)
  else (⟨1 + (nextF 3 (nextF 3 s).2).1, (nextF 4 (nextF 3 (nextF 3 s).2).2).1, 1 + (nextF 3 (nextF 4 (nextF 3 (nextF 3 s).2).2).2).1⟩, (nextF 3 (nextF 4 (nextF 3 (nextF 3 s).2).2).2).2)
theorem ldrG_ok {s : Src} {k : Nat} (g : SrcOK s k) : SrcOK (ldrG s).2 (k + 12) ∧ ldrOK (ldrG s).1 = true ∧ (ldrG s).1.ver ≤ 3 ∧ -1 ≤ (ldrG s).1.owner ∧ (ldrG s).1.owner ≤ 3 := by
  obtain ⟨g1, a1, b1⟩ := nextF_ok 3 g
  obtain ⟨g2, a2, b2⟩ := nextF_ok 3 g1
  obtain ⟨g3, a3, b3⟩ := nextF_ok 4 g2
  obtain ⟨g4, a4, b4⟩ := nextF_ok 3 g3
  unfold ldrG
  split
  · refine ⟨g2.mono (by omega), ?_, by simp only; omega, by simp, by simp⟩
    simp [ldrOK, inn]; omega
  · refine ⟨g4.mono (by omega), ?_, by simp only; omega, by simp only; omega, by simp only; omega⟩
    simp [ldrOK, inn]; omega
theorem ldr_E (s : Src) (k : Nat) (hk : k ≤ 700000000) (g : SrcOK s k) : E CX 165 [.ptr [0] 0 0] [([0], eSrc s)] = some { val := eLeader (ldrG s).1, io := [eSrc (ldrG s).2] } := by
  obtain ⟨g1, a1, b1⟩ := nextF_ok 3 g
  obtain ⟨g2, a2, b2⟩ := nextF_ok 3 g1
  obtain ⟨g3, a3, b3⟩ := nextF_ok 4 g2
  obtain ⟨g4, a4, b4⟩ := nextF_ok 3 g3
  have e0 := chance_E 3 s k (by omega) (by omega) g
  have e1 := next_E 3 (nextF 3 s).2 (k + 3) (by omega) g1
  have e2 := next_E 4 (nextF 3 (nextF 3 s).2).2 (k + 3 + 3) (by omega) g2
  have e3 := next_E 3 (nextF 4 (nextF 3 (nextF 3 s).2).2).2 (k + 3 + 3 + 3) (by omega) g3
  refine E_fin Try.f165 _ an165 rfl rfl rfl Try.func165 rfl (by kernel_rfl) ?_
  unfold ldrG
  generalize nextF 3 (nextF 4 (nextF 3 (nextF 3 s).2).2).2 = x4 at *
  generalize nextF 4 (nextF 3 (nextF 3 s).2).2 = x3 at *
  generalize nextF 3 (nextF 3 s).2 = x2 at *
  generalize nextF 3 s = x1 at *
  simp only [eSrc] at e0 e1 e2 e3
  cases hb : (x1.1 == 3 - 1)
  · rw [hb] at e0
    simp [go_sem, eSrc, eLeader, e0, e1, e2, e3, wrap_id (n := 1 + x2.1) (by omega), wrap_id (n := 1 + x4.1) (by omega)]
  · rw [hb] at e0
    simp [go_sem, eSrc, eLeader, e0, e1]
def blG (s : Src) : Bl × Src :=
  let v := nextF 3 s
  let w := nextF 2 v.2
  let m := nextF 12 w.2
  let b := nextF (m.1 + 1) m.2
  let i := nextF 9 b.2
  if 0 < b.1 then (⟨if w.1 = 0 then 0 else v.1, m.1, b.1, i.1⟩, i.2) else (⟨if w.1 = 0 then 0 else v.1, m.1, b.1, 0⟩, b.2)
theorem blG_ok {s : Src} {k : Nat} (g : SrcOK s k) : SrcOK (blG s).2 (k + 15) ∧ blkOK (blG s).1 = true ∧ (blG s).1.mbal ≤ 11 := by
  obtain ⟨g1, a1, b1⟩ := nextF_ok 3 g
  obtain ⟨g2, a2, b2⟩ := nextF_ok 2 g1
  obtain ⟨g3, a3, b3⟩ := nextF_ok 12 g2
  obtain ⟨g4, a4, b4⟩ := nextF_ok ((nextF 12 (nextF 2 (nextF 3 s).2).2).1 + 1) g3
  obtain ⟨g5, a5, b5⟩ := nextF_ok 9 g4
  unfold blG
  simp only
  generalize nextF 9 (nextF ((nextF 12 (nextF 2 (nextF 3 s).2).2).1 + 1) (nextF 12 (nextF 2 (nextF 3 s).2).2).2).2 = x5 at *
  generalize nextF ((nextF 12 (nextF 2 (nextF 3 s).2).2).1 + 1) (nextF 12 (nextF 2 (nextF 3 s).2).2).2 = x4 at *
  generalize nextF 12 (nextF 2 (nextF 3 s).2).2 = x3 at *
  generalize nextF 2 (nextF 3 s).2 = x2 at *
  generalize nextF 3 s = x1 at *
  have hv : inn (if x2.1 = 0 then 0 else x1.1) 0 1000000 = true := by simp [inn]; split <;> omega
  split
  · refine ⟨g5.mono (by omega), ?_, by simp only; omega⟩
    simp only [blkOK, hv, isNum, inn]
    simp; omega
  · refine ⟨g4.mono (by omega), ?_, by simp only; omega⟩
    simp only [blkOK, hv, isNum, inn]
    simp; omega
theorem bl_E (s : Src) (k : Nat) (hk : k ≤ 700000000) (g : SrcOK s k) : E CX 167 [.ptr [0] 0 0] [([0], eSrc s)] = some { val := eBl (blG s).1, io := [eSrc (blG s).2] } := by
  obtain ⟨g1, a1, b1⟩ := nextF_ok 3 g
  obtain ⟨g2, a2, b2⟩ := nextF_ok 2 g1
  obtain ⟨g3, a3, b3⟩ := nextF_ok 12 g2
  obtain ⟨g4, a4, b4⟩ := nextF_ok ((nextF 12 (nextF 2 (nextF 3 s).2).2).1 + 1) g3
  have e1 := next_E 3 s k (by omega) g
  have e2 := next_E 2 (nextF 3 s).2 (k + 3) (by omega) g1
  have e3 := next_E 12 (nextF 2 (nextF 3 s).2).2 (k + 3 + 3) (by omega) g2
  have e4 := next_E ((nextF 12 (nextF 2 (nextF 3 s).2).2).1 + 1) (nextF 12 (nextF 2 (nextF 3 s).2).2).2 (k + 3 + 3 + 3) (by omega) g3
  have e5 := next_E 9 (nextF ((nextF 12 (nextF 2 (nextF 3 s).2).2).1 + 1) (nextF 12 (nextF 2 (nextF 3 s).2).2).2).2 (k + 3 + 3 + 3 + 3) (by omega) g4
  refine E_fin Try.f167 _ an167 rfl rfl rfl Try.func167 rfl (by kernel_rfl) ?_
  unfold blG
  simp only
  generalize nextF 9 (nextF ((nextF 12 (nextF 2 (nextF 3 s).2).2).1 + 1) (nextF 12 (nextF 2 (nextF 3 s).2).2).2).2 = x5 at *
  generalize nextF ((nextF 12 (nextF 2 (nextF 3 s).2).2).1 + 1) (nextF 12 (nextF 2 (nextF 3 s).2).2).2 = x4 at *
  generalize nextF 12 (nextF 2 (nextF 3 s).2).2 = x3 at *
  generalize nextF 2 (nextF 3 s).2 = x2 at *
  generalize nextF 3 s = x1 at *
  simp only [eSrc] at e1 e2 e3 e4 e5
  have hc : x2.1 = 0 ∨ x2.1 = 1 := by omega
  by_cases c : 0 < x4.1
  · rcases hc with hc | hc
    · simp [go_sem, eSrc, eBl, e1, e2, e3, e4, e5, hc, c, wrap_id (n := x3.1 + 1) (by omega)]
    · simp [go_sem, eSrc, eBl, e1, e2, e3, e4, e5, hc, c, wrap_id (n := x3.1 + 1) (by omega)]
  · rcases hc with hc | hc
    · simp [go_sem, eSrc, eBl, e1, e2, e3, e4, hc, c, wrap_id (n := x3.1 + 1) (by omega)]
    · simp [go_sem, eSrc, eBl, e1, e2, e3, e4, hc, c, wrap_id (n := x3.1 + 1) (by omega)]
theorem l05Encode_E (b : Bl) : E CX 166 [eBl b] [] = some { val := .str (blT b) } := by
  refine E_fin Try.f166 _ an166 rfl rfl rfl Try.func166 rfl (by kernel_rfl) ?_
  have e1 := l02Seal_E 5 [b.ver, b.mbal, b.bal, b.inp] (by simp)
  simp at e1
  simp [go_sem, eBl, e1, blT]
/-- Blocks that may be drawn into the sectors behind the leader's. -/
def bkF : List Unit → Nat → List Tx × Src → List Tx × Src
  | [], _, a => a
  | _ :: r, n, a => bkF r (n + 1) (if (nextF 3 a.2).1 == 3 - 1 then (a.1.set (1 + n) (blT (blG (nextF 3 a.2).2).1), (blG (nextF 3 a.2).2).2) else (a.1, (nextF 3 a.2).2))
theorem bkF_ok : ∀ (l : List Unit) (n : Nat) (a : List Tx × Src) (k : Nat), SrcOK a.2 k → a.1.length = 64 → (∀ t ∈ a.1, Mild t) → SrcOK (bkF l n a).2 (k + 20 * l.length) ∧ (bkF l n a).1.length = 64 ∧ ∀ t ∈ (bkF l n a).1, Mild t := by
  intro l
  induction l with
  | nil => intro n a k g h1 h2; exact ⟨g, h1, h2⟩
  | cons u l ih =>
    intro n a k g h1 h2
    obtain ⟨g1, a1, b1⟩ := nextF_ok 3 g
    unfold bkF
    simp only [List.length_cons]
    split
    · obtain ⟨g2, q1, q2⟩ := blG_ok g1
      obtain ⟨i1, i2, i3⟩ := ih (n + 1) (a.1.set (1 + n) (blT (blG (nextF 3 a.2).2).1), (blG (nextF 3 a.2).2).2) (k + 3 + 15) g2 (by simpa using h1) (by
        intro t ht
        rcases List.mem_or_eq_of_mem_set ht with ht | rfl
        · exact h2 t ht
        · exact mild_bl q1 q2)
      exact ⟨i1.mono (by omega), i2, i3⟩
    · obtain ⟨i1, i2, i3⟩ := ih (n + 1) (a.1, (nextF 3 a.2).2) (k + 3) g1 h1 h2
      exact ⟨i1.mono (by omega), i2, i3⟩
theorem leaseD_E (s : Src) (k : Nat) (hk : k ≤ 200000000) (g : SrcOK s k) : ∃ c s', E CX 80 [.ptr [0] 0 0] [([0], eSrc s)] = some { val := cutV c, io := [eSrc s'], own := cutR c } ∧ CutOK c := by
  obtain ⟨c, s1, e1, hc, g1⟩ := deltaDisk_E s k (by omega) g
  obtain ⟨ss, o, ps⟩ := c
  have h1 := hc.len; have h2 := hc.o; have h3 := hc.s; have h4 := hc.p
  simp only at h1 h2 h3 h4
  simp only [eSrc, cutV, cutR] at e1
  by_cases c1 : o = 1
  · subst c1
    refine ⟨⟨ss, 1, ps⟩, s1, ?_, hc⟩
    refine E_fin Try.f80 _ an80 rfl rfl rfl Try.func80 rfl (by kernel_rfl) ?_
    simp at e1
    simp [go_sem, eSrc, cutV, cutR, e1]
  · obtain rfl : o = 0 := by omega
    simp at e1
    have e2 := chance_E 2 s1 (k + 4000) (by omega) (by omega) g1
    obtain ⟨g2, a2, b2⟩ := nextF_ok 2 g1
    have e3 := ldr_E (nextF 2 s1).2 (k + 4000 + 3) (by omega) g2
    obtain ⟨g3, q1, q2, q3, q4⟩ := ldrG_ok g2
    have e4 := l06Encode_E (ldrG (nextF 2 s1).2).1 (wrap_id (by omega))
    -- behind the leader
    let st : List Tx × Src := if (nextF 2 s1).1 == 2 - 1 then (ss.set 0 (ldrT (ldrG (nextF 2 s1).2).1), (ldrG (nextF 2 s1).2).2) else (ss, (nextF 2 s1).2)
    have hst : SrcOK st.2 (k + 4100) ∧ st.1.length = 64 ∧ ∀ t ∈ st.1, Mild t := by
      by_cases hc : ((nextF 2 s1).1 == 2 - 1) = true
      · have hs : st = (ss.set 0 (ldrT (ldrG (nextF 2 s1).2).1), (ldrG (nextF 2 s1).2).2) := by simp only [st]; rw [if_pos hc]
        rw [hs]
        refine ⟨g3.mono (by omega), by simpa using h1, fun t ht => ?_⟩
        rcases List.mem_or_eq_of_mem_set ht with ht | rfl
        · exact h3 t ht
        · exact mild_ldr q1 q2
      · have hs : st = (ss, (nextF 2 s1).2) := by simp only [st]; rw [if_neg hc]
        rw [hs]
        exact ⟨g2.mono (by omega), h1, h3⟩
    have hfin := bkF_ok [(), (), (), ()] 0 st (k + 4100) hst.1 hst.2.1 hst.2.2
    refine ⟨⟨(bkF [(), (), (), ()] 0 st).1, 0, ps⟩, (bkF [(), (), (), ()] 0 st).2, ?_, ⟨hfin.2.1, by simp, hfin.2.2, h4⟩⟩
    have hl4 : ([(), (), (), ()] : List Unit).length = 4 := rfl
    generalize hl : ([(), (), (), ()] : List Unit) = l at *
    have loop : ∀ (b : Bool), ((nextF 2 s1).1 == 2 - 1) = b → E CX 80 [.ptr [0] 0 0] [([0], eSrc s)] = some { val := cutV ⟨(bkF l 0 st).1, 0, ps⟩, io := [eSrc (bkF l 0 st).2], own := cutR ⟨(bkF l 0 st).1, 0, ps⟩ } := by
      intro b hb
      have hs : st = if b then (ss.set 0 (ldrT (ldrG (nextF 2 s1).2).1), (ldrG (nextF 2 s1).2).2) else (ss, (nextF 2 s1).2) := by rw [← hb]
      clear_value st
      refine E_fin Try.f80 _ an80 rfl rfl rfl Try.func80 rfl (by kernel_rfl) ?_
      rw [hb] at e2
      generalize hx2 : nextF 2 s1 = x2 at *
      simp only [eSrc] at e2 e3
      generalize ldrG x2.2 = lg at *
      generalize hlt : ldrT lg.1 = lt at *
      simp only [eLeader] at e3 e4
      cases b
      all_goals
        simp [go_sem, eSrc, eLeader, e1, e2, e3, e4, h1]
        refine loop_for (fun X => fin CX _ _ X = _) l (fun n (a : List Tx × Src) => SrcOK a.2 (k + 4100 + 20 * n) ∧ a.1.length = 64) (fun n a => ⟨SS [(0, .ptr [0] 0 0), (2, .ptr [2] 0 0), (3, .ptr [3] 0 0), (4, .int .i64 n)], HS [([0], eSrc a.2), ([2], ⟨true, 32, 2, [.agg [.nil, .nil]]⟩), ([3], ⟨true, 32, 2, [.agg [.ref [60] 0 64, .ref [61] 0 ps.length]]⟩), ([60], ⟨false, 9, 1, a.1.map .str⟩), ([61], ⟨false, 154, 3, ps.map eIo⟩)]⟩)
          (fun r n a => (.exit 0, ⟨SS [(2, .ptr [2] 0 0), (3, .ptr [3] 0 0)], HS [([2], ⟨true, 32, 2, [.agg [.nil, .nil]]⟩), ([3], ⟨true, 32, 2, [.agg [.ref [60] 0 64, .ref [61] 0 ps.length]]⟩), ([60], ⟨false, 9, 1, (bkF r n a).1.map .str⟩), ([61], ⟨false, 154, 3, ps.map eIo⟩), ([0], eSrc (bkF r n a).2)]⟩)) st ⟨hst.1, hst.2.1⟩ ?_ ?_ ?_ ?_ ?_
        · rw [hs]; simp [go_sem, eSrc, List.map_set]
        · intro R n a x r hn hx hd' hI hR
          obtain ⟨hI1, hI2⟩ := hI
          have f1 := chance_E 3 a.2 _ (by omega) (by omega) hI1
          obtain ⟨g5, a5, b5⟩ := nextF_ok 3 hI1
          have f2 := bl_E (nextF 3 a.2).2 _ (by omega) g5
          obtain ⟨g6, q5, q6⟩ := blG_ok g5
          have f3 := l05Encode_E (blG (nextF 3 a.2).2).1
          have := hR (if (nextF 3 a.2).1 == 3 - 1 then (a.1.set (1 + n) (blT (blG (nextF 3 a.2).2).1), (blG (nextF 3 a.2).2).2) else (a.1, (nextF 3 a.2).2)) (by
            split
            · exact ⟨g6.mono (by omega), by simpa using hI2⟩
            · exact ⟨g5.mono (by omega), hI2⟩) (by simp only [bkF])
          generalize nextF 3 a.2 = x3 at *
          generalize blG x3.2 = bg at *
          generalize blT bg.1 = bt at *
          simp only [eSrc] at f1 f2
          simp only [eBl] at f2 f3
          cases hb3 : (x3.1 == 3 - 1)
          · rw [hb3] at f1 this
            simp [go_sem, eSrc] at this
            simp [go_sem, eSrc, f1, show (n : Int) < 4 by omega, wrap_id (n := (n : Int) + 1) (by omega)]
            exact this
          · rw [hb3] at f1 this
            simp [go_sem, eSrc, List.map_set] at this
            have tn : (1 + (n : Int)).toNat = 1 + n := by omega
            simp [go_sem, eSrc, eBl, f1, f2, f3, hI2, tn, show (n : Int) < 4 by omega, show 1 + (n : Int) < 64 by omega, show (0 : Int) ≤ 1 + n by omega, show 1 + n < 64 by omega, wrap_id (n := (n : Int) + 1) (by omega), wrap_id (n := 1 + (n : Int)) (by omega)]
            exact this
        · intro a hI; simp [go_sem, bkF, eSrc, hl4]
        · intro _; simp
        · simp [go_sem, eSrc, cutV, cutR]
    exact loop _ rfl
theorem leaseDisk_E (bs : List Int) (h : bs.length ≤ 1073741824) (hb : ∀ b ∈ bs, 0 ≤ b ∧ b < 256) : ∃ ss, diskOK ⟨ss, []⟩ = true ∧ (∀ t ∈ ss, Mild t) ∧
    (E CX 21 [.sl 1 (bs.map (.int .u8))] [] = some { val := .agg [.sl 1 (ss.map .str), .sl 3 []] } ∨ E CX 21 [.sl 1 (bs.map (.int .u8))] [] = some { val := .agg [.sl 1 (ss.map .str), .ref [0, 0, 0, 0] 0 0], own := [⟨false, 154, 3, []⟩] }) := by
  have e1 := l00Source_E bs h
  have g := source_ok bs h hb
  obtain ⟨c, s', e2, hc⟩ := leaseD_E _ 0 (by omega) g
  obtain ⟨ss, o, ps⟩ := c
  have h1 := hc.len; have h2 := hc.o; have h3 := hc.s; have h4 := hc.p
  simp only at h1 h2 h3 h4
  have e3 := l01New_E
  have hE : E64.map AV.str = List.replicate 64 (.str []) := by simp [E64, -List.reduceReplicate]
  simp only [eSrc, cutV, cutR] at e1 e2
  rw [show ((0 : Nat) : Int) = 0 from rfl] at e1 e2
  by_cases c1 : o = 1
  · subst c1
    refine ⟨E64, d64_ok, fun t ht => by simp [E64] at ht; subst ht; exact mild_nil, .inl ?_⟩
    simp at e2
    refine E_fin Try.f21 _ an21 rfl rfl rfl Try.func21 rfl (by kernel_rfl) ?_
    simp [go_sem, e1, e2, e3, h1, hE, -List.reduceReplicate]
  · obtain rfl : o = 0 := by omega
    simp at e2
    have e4 := sDiskOK_E ⟨ss, ps⟩ (by simp only; omega) (by simp only; omega)
    have e5 := l01Own_E ⟨ss, ps⟩ (by simp only; omega) (by simp only; omega)
    simp only [eDisk] at e4 e5
    cases hd : diskOK ⟨ss, ps⟩
    · rw [hd] at e4
      refine ⟨E64, d64_ok, fun t ht => by simp [E64] at ht; subst ht; exact mild_nil, .inl ?_⟩
      refine E_fin Try.f21 _ an21 rfl rfl rfl Try.func21 rfl (by kernel_rfl) ?_
      simp [go_sem, e1, e2, e3, e4, h1, hE, -List.reduceReplicate]
    · rw [hd] at e4
      obtain ⟨a1, a2, a3, a4⟩ := diskOK_iff.1 hd
      refine ⟨ss, diskOK_iff.2 ⟨a1, a2, by simp, by simp⟩, h3, .inr ?_⟩
      refine E_fin Try.f21 _ an21 rfl rfl rfl Try.func21 rfl (by kernel_rfl) ?_
      simp [go_sem, e1, e2, e3, e4, e5, h1]
end Go.Proofs.Ytccoeoppjcegnaa

namespace Go.Proofs.Ytccoeoppjcegnaa
open Go
set_option maxRecDepth 100000
set_option maxHeartbeats 1000000
set_option linter.unusedSimpArgs false
set_option linter.unusedVariables false
def rcode (d : Disk) (x : Delta) (now : Int) : Int := if dltOK x then tcode d x.host now else 1
theorem rcode_first (d : Disk) (x : Delta) (now : Int) : firstP [(!dltOK x || !diskOK d, 1), (!inn now 0 10000000, 4), (decide (d.ps.length = 200), 7)] = rcode d x now := by
  unfold rcode tcode
  cases h : dltOK x
  · simp [firstP]
  · have h1 : inn x.host 0 3 = true := by simp [dltOK] at h; exact h.1.1
    cases diskOK d <;> cases inn now 0 10000000 <;> by_cases c : d.ps.length = 200 <;> simp [firstP, c, h1]
theorem rcode_zero {d : Disk} {x : Delta} {now : Int} (hc : rcode d x now = 0) : dltOK x = true ∧ diskOK d = true ∧ inn now 0 10000000 = true ∧ 0 ≤ x.host ∧ x.host ≤ 3 ∧ 1 ≤ x.gen ∧ d.ps.length < 200 ∧ tcode d x.host now = 0 := by
  unfold rcode at hc
  cases h : dltOK x
  · simp [h] at hc
  · rw [h] at hc
    simp at hc
    obtain ⟨h1, ⟨h2, h3⟩, h4, h5, h6⟩ := tcode_zero hc
    simp [dltOK, inn] at h
    exact ⟨rfl, h1, h3, h4, h5, h.1.2.1, h6, hc⟩
def renewN (x : Delta) (now : Int) : Delta := ⟨x.host, x.gen, now⟩
def renewA (d : Disk) (x : Delta) (now : Int) : Disk × Delta × Int :=
  if rcode d x now ≠ 0 then (mty, zD, rcode d x now) else if rdD d x.host x.host ≠ some x then (d, zD, 13) else if now < x.stamp then (d, zD, 17) else (putD d x.host (5 + x.host) (dltT (renewN x now)), renewN x now, 0)
theorem delta_eta (x y : Delta) : (x.host = y.host ∧ x.gen = y.gen ∧ x.stamp = y.stamp) ↔ x = y := by
  cases x; cases y; simp
theorem renewDelta_E (d : Disk) (x : Delta) (now : Int) (h1 : d.ss.length ≤ 1073741824) (h2 : d.ps.length ≤ 1073741824) : ∃ r : Res, E CX 24 [eDisk d, eDelta x, .int .i64 now] [] = some r ∧ toldOwn r (renewA d x now).1 (eDelta (renewA d x now).2.1) (renewA d x now).2.2 := by
  have e1 := diskOK_E d h1 h2
  have e2 := deltaOK_E x
  have e3 := isStamp_E now
  have e4 := isFull_E d
  have e5 := first_E [(!dltOK x || !diskOK d, 1), (!inn now 0 10000000, 4), (decide (d.ps.length = 200), 7)] (by simp)
  rw [rcode_first] at e5
  simp only [anys] at e5
  simp only [eDisk] at e1 e4
  unfold renewA
  by_cases hc : rcode d x now = 0
  · obtain ⟨hx, hd, hn, ho1, ho2, hg, hps, ht⟩ := rcode_zero hc
    rw [hc] at e5
    rw [hd] at e1; rw [hx] at e2; rw [hn] at e3; rw [hx, hd, hn] at e5
    simp at e5
    rw [if_neg (by simp [hc])]
    have e6 := delta_E d x.host x.host hd ⟨ho1, ho2⟩
    have e7 := copied_E d h1 h2
    have g := diskOK_good hd
    have e8 := dltText_E (renewN x now)
    have e9 := put_E d x.host (5 + x.host) (dltT (renewN x now)) ⟨g.ss, by omega, g.at_⟩ (by omega)
    have w1 := wrap_id (n := 5 + x.host) (by omega)
    generalize putD d x.host (5 + x.host) (dltT (renewN x now)) = pd at *
    generalize htx : dltT (renewN x now) = tx at *
    simp only [eDisk, eDelta] at e2 e6 e7 e8 e9
    simp only [renewN] at e8
    by_cases hr : rdD d x.host x.host = some x
    · rw [hr] at e6 ⊢
      simp only [dltV, eDelta] at e6
      by_cases hm : now < x.stamp
      · rw [if_neg (by simp), if_pos hm]
        have e10 := first_E [(!true || !(decide (x.host = x.host ∧ x.gen = x.gen ∧ x.stamp = x.stamp)), 13), (decide (now < x.stamp), 17)] (by simp)
        simp [hm, firstP, anys] at e10
        refine ⟨_, ?_, .inr ⟨[], rfl⟩⟩
        refine E_fin Try.f24 _ an24 rfl rfl rfl Try.func24 rfl (by kernel_rfl) ?_
        simp [go_sem, eDisk, eDelta, zD, e1, e2, e3, e4, e5, e6, e7, e10, hm]
      · rw [if_neg (by simp), if_neg hm]
        have e10 := first_E [(!true || !(decide (x.host = x.host ∧ x.gen = x.gen ∧ x.stamp = x.stamp)), 13), (decide (now < x.stamp), 17)] (by simp)
        simp [hm, firstP, anys] at e10
        refine ⟨_, ?_, .inr ⟨List.replicate (d.ps.length + 1 - pd.ps.length) zIo, rfl⟩⟩
        refine E_fin Try.f24 _ an24 rfl rfl rfl Try.func24 rfl (by kernel_rfl) ?_
        simp at e9
        simp [go_sem, eDisk, eDelta, renewN, e1, e2, e3, e4, e5, e6, e8, e9, e10, hm, w1]
    · rw [if_pos hr]
      refine ⟨_, ?_, .inr ⟨[], rfl⟩⟩
      refine E_fin Try.f24 _ an24 rfl rfl rfl Try.func24 rfl (by kernel_rfl) ?_
      cases hy : rdD d x.host x.host with
      | none =>
        rw [hy] at e6
        simp only [dltV, eDelta, zD] at e6
        have e10 := first_E [(true, 13), (decide (now < x.stamp), 17)] (by simp)
        simp [firstP, anys] at e10
        simp [go_sem, eDisk, eDelta, zD, e1, e2, e3, e4, e5, e6, e7, e10]
      | some y =>
        rw [hy] at e6 hr
        have hne : ¬ (y.host = x.host ∧ y.gen = x.gen ∧ y.stamp = x.stamp) := by rw [delta_eta]; intro h; exact hr (by rw [h])
        simp only [dltV, eDelta] at e6
        have e10 := first_E [(true, 13), (decide (now < x.stamp), 17)] (by simp)
        simp [firstP, anys] at e10
        by_cases c1 : y.host = x.host
        · by_cases c2 : y.gen = x.gen
          · have c3 : ¬ y.stamp = x.stamp := fun h => hne ⟨c1, c2, h⟩
            have b3 : (y.stamp == x.stamp) = false := by simp [c3]
            simp [go_sem, eDisk, eDelta, zD, e1, e2, e3, e4, e5, e6, e7, e10, c1, c2, c3, b3]
          · have b2 : (y.gen == x.gen) = false := by simp [c2]
            simp [go_sem, eDisk, eDelta, zD, e1, e2, e3, e4, e5, e6, e7, e10, c1, c2, b2]
        · have b1 : (y.host == x.host) = false := by simp [c1]
          simp [go_sem, eDisk, eDelta, zD, e1, e2, e3, e4, e5, e6, e7, e10, c1, b1]
  · rw [if_pos hc]
    refine ⟨_, ?_, .inl ⟨rfl, rfl⟩⟩
    refine E_fin Try.f24 _ an24 rfl rfl rfl Try.func24 rfl (by kernel_rfl) ?_
    generalize rcode d x now = c at *
    simp only [eDelta] at e2
    cases hx : dltOK x
    · rw [hx] at e2 e5
      simp at e5
      simp [go_sem, eDisk, eDelta, zD, e2, e3, e4, e5, hc]
    · rw [hx] at e2 e5
      simp at e5
      simp [go_sem, eDisk, eDelta, zD, e1, e2, e3, e4, e5, hc]
theorem rdD0_some (d : Disk) (x : Delta) (hg : 1 ≤ x.gen) : rdD d x.host x.host = some x ↔ rdD0 d x.host x.host = x := by
  unfold rdD0
  cases hy : rdD d x.host x.host with
  | none => simp; intro h; rw [← h] at hg; simp at hg
  | some y => simp
theorem sRenewDelta_E (d : Disk) (x : Delta) (now : Int) (h1 : d.ss.length ≤ 1073741824) (h2 : d.ps.length ≤ 1073741824) : ∃ r : Res, E CX 55 [eDisk d, eDelta x, .int .i64 now] [] = some r ∧ toldVal r (renewA d x now).1 (eDelta (renewA d x now).2.1) (renewA d x now).2.2 := by
  have e1 := l04Room_E d x.host now h1 h2
  have e2 := sDeltaOK_E x
  simp only [eDisk] at e1
  simp only [eDelta] at e2
  unfold renewA
  by_cases hc : rcode d x now = 0
  · obtain ⟨hx, hd, hn, ho1, ho2, hg, hps, ht⟩ := rcode_zero hc
    rw [ht] at e1
    rw [hx] at e2
    rw [if_neg (by simp [hc])]
    have e6 := l04Read_E d x.host x.host hd ⟨ho1, ho2⟩
    have e7 := l01Own_E d h1 h2
    have g := diskOK_good hd
    have e9 := l04Put_E d (renewN x now) g hps ⟨ho1, ho2⟩
    have hn2 : (renewN x now).host = x.host := rfl
    rw [hn2] at e9
    have gp := putD_good d x.host (5 + x.host) (dltT (renewN x now)) 200 g (by omega)
    have gp1 := gp.ss; have gp2 := gp.ps
    have e10 := l01Own_E (putD d x.host (5 + x.host) (dltT (renewN x now))) (by omega) (by omega)
    generalize putD d x.host (5 + x.host) (dltT (renewN x now)) = pd at *
    simp only [eDisk, eDelta] at e6 e7 e9 e10
    simp only [renewN] at e9
    have hrr := rdD0_some d x hg
    by_cases hr : rdD0 d x.host x.host = x
    · rw [hr] at e6
      by_cases hm : now < x.stamp
      · rw [if_neg (by simp [hrr, hr]), if_pos hm]
        refine ⟨_, ?_, .inr rfl⟩
        refine E_fin Try.f55 _ an55 rfl rfl rfl Try.func55 rfl (by kernel_rfl) ?_
        simp [go_sem, eDisk, eDelta, zD, e1, e2, e6, e7, hm]
      · rw [if_neg (by simp [hrr, hr]), if_neg hm]
        refine ⟨_, ?_, .inr rfl⟩
        refine E_fin Try.f55 _ an55 rfl rfl rfl Try.func55 rfl (by kernel_rfl) ?_
        try simp at e9
        simp [go_sem, eDisk, eDelta, renewN, e1, e2, e6, e9, e10, hm]
    · rw [if_pos (by simp [hrr, hr])]
      refine ⟨_, ?_, .inr rfl⟩
      refine E_fin Try.f55 _ an55 rfl rfl rfl Try.func55 rfl (by kernel_rfl) ?_
      generalize rdD0 d x.host x.host = y at *
      have hne : ¬ (y.host = x.host ∧ y.gen = x.gen ∧ y.stamp = x.stamp) := by rw [delta_eta]; exact hr
      by_cases c1 : y.host = x.host
      · by_cases c2 : y.gen = x.gen
        · have c3 : ¬ y.stamp = x.stamp := fun h => hne ⟨c1, c2, h⟩
          have b3 : (y.stamp == x.stamp) = false := by simp [c3]
          simp [go_sem, eDisk, eDelta, zD, e1, e2, e6, e7, c1, c2, c3, b3]
        · have b2 : (y.gen == x.gen) = false := by simp [c2]
          simp [go_sem, eDisk, eDelta, zD, e1, e2, e6, e7, c1, c2, b2]
      · have b1 : (y.host == x.host) = false := by simp [c1]
        simp [go_sem, eDisk, eDelta, zD, e1, e2, e6, e7, c1, b1]
  · rw [if_pos hc]
    refine ⟨_, ?_, .inl ⟨rfl, rfl⟩⟩
    refine E_fin Try.f55 _ an55 rfl rfl rfl Try.func55 rfl (by kernel_rfl) ?_
    unfold rcode at hc ⊢
    cases hx : dltOK x
    · rw [hx] at e2
      simp [go_sem, eDisk, eDelta, zD, e2]
    · rw [hx] at e2 hc
      simp at hc
      simp [go_sem, eDisk, eDelta, zD, e1, e2, hc]
theorem renewA_len (d : Disk) (x : Delta) (now : Int) (b1 : d.ss.length ≤ 1048576) (b2 : d.ps.length ≤ 1048576) : (renewA d x now).1.ss.length ≤ 1048576 ∧ (renewA d x now).1.ps.length ≤ 1048577 := by
  unfold renewA
  split
  · simp [mty]
  · rename_i hc
    split
    · exact ⟨b1, by simp only; omega⟩
    · split
      · exact ⟨b1, by simp only; omega⟩
      · obtain ⟨hx, hd, hn, ho1, ho2, hg, hps, ht⟩ := rcode_zero (by simpa using hc)
        have gp := putD_good d x.host (5 + x.host) (dltT (renewN x now)) 200 (diskOK_good hd) (by omega)
        have := gp.ss; have := gp.ps
        simp only
        omega
end Go.Proofs.Ytccoeoppjcegnaa

namespace Go.Proofs.Ytccoeoppjcegnaa
open Go
set_option maxRecDepth 100000
set_option maxHeartbeats 1000000
set_option linter.unusedSimpArgs false
set_option linter.unusedVariables false
theorem sameTexts_E (a b : List Tx) (ha : a.length ≤ 1073741824) : E CX 20 [.sl 1 (a.map .str), .sl 1 (b.map .str)] [] = some { val := .bool (decide (a = b)) } := by
  refine E_fin Try.f20 _ an20 rfl rfl rfl Try.func20 rfl (by kernel_rfl) ?_
  by_cases hl : a.length = b.length
  · simp [go_sem, hl]
    refine loop_list (fun X => fin CX _ _ X = _) a (fun n _ => True) (fun n (_ : Unit) => ⟨SS [(0, .sl 1 (a.map .str)), (1, .sl 1 (b.map .str)), (5, .int .i64 n)], HE⟩) (fun l n _ => if l = b.drop n then (.exit 0, ⟨SS [], HE⟩) else (.ret, ⟨SS [(4, .bool false)], HE⟩)) () trivial ?_ ?_ ?_ ?_ ?_
    · simp [go_sem]
    · intro n _ x t hn hx hd _
      have hn' : n < b.length := by omega
      obtain ⟨y, u, hy, hu, hu'⟩ := cut_at hn'
      have hx := hx hn
      by_cases hxy : x = y
      · simp [go_sem, hn, hn', hx, hy, hxy, hu, hu', wrap_id (n := (n : Int) + 1) (by omega)]
      · simp [go_sem, hn, hn', hx, hy, hxy, hu, hu']
    · intro _ _; simp [go_sem, hl]
    · intro _; simp [hl]
    · by_cases h : a = b <;> simp [go_sem, h]
  · have : a ≠ b := fun h => hl (by rw [h])
    have hl' : ¬ ((a.length : Int) = b.length) := by omega
    simp [go_sem, hl', this]
theorem sameMoves_E (a b : List Move) (ha : a.length ≤ 1073741824) : E CX 19 [.sl 3 (a.map eMove), .sl 3 (b.map eMove)] [] = some { val := .bool (decide (a = b)) } := by
  refine E_fin Try.f19 _ an19 rfl rfl rfl Try.func19 rfl (by kernel_rfl) ?_
  by_cases hl : a.length = b.length
  · simp [go_sem, hl]
    refine loop_list (fun X => fin CX _ _ X = _) a (fun n _ => True) (fun n (_ : Unit) => ⟨SS [(0, .sl 3 (a.map eMove)), (1, .sl 3 (b.map eMove)), (5, .int .i64 n)], HE⟩) (fun l n _ => if l = b.drop n then (.exit 0, ⟨SS [], HE⟩) else (.ret, ⟨SS [(4, .bool false)], HE⟩)) () trivial ?_ ?_ ?_ ?_ ?_
    · simp [go_sem]
    · intro n _ x t hn hx hd _
      have hn' : n < b.length := by omega
      obtain ⟨y, u, hy, hu, hu'⟩ := cut_at hn'
      have hx := hx hn
      obtain ⟨x0, x1, x2⟩ := x
      obtain ⟨y0, y1, y2⟩ := y
      by_cases h0 : x0 = y0
      · by_cases h1 : x1 = y1
        · by_cases h2 : x2 = y2
          · simp [go_sem, eMove, hn, hn', hx, hy, h0, h1, h2, hu, hu', wrap_id (n := (n : Int) + 1) (by omega)]
          · simp [go_sem, eMove, hn, hn', hx, hy, h0, h1, h2, hu, hu']
        · simp [go_sem, eMove, hn, hn', hx, hy, h0, h1, hu, hu']
      · simp [go_sem, eMove, hn, hn', hx, hy, h0, hu, hu']
    · intro _ _; simp [go_sem, hl]
    · intro _; simp [hl]
    · by_cases h : a = b <;> simp [go_sem, h]
  · have : a ≠ b := fun h => hl (by rw [h])
    have hl' : ¬ ((a.length : Int) = b.length) := by omega
    simp [go_sem, hl', this]
theorem at_E (bs : List Int) (i n : Int) (hb : ∀ b ∈ bs, 0 ≤ b ∧ b < 256) (hl : bs.length ≤ 1073741824) (hi : 0 ≤ i ∧ i ≤ 1000000) (hn : n ≤ 1000000) : ∃ v : Int, E CX 14 [.sl 1 (bs.map (.int .u8)), .int .i64 i, .int .i64 n] [] = some { val := .int .i64 v } ∧ 0 ≤ v ∧ (v < n ∨ v = 0) := by
  by_cases h1 : n ≤ 1
  · refine ⟨0, ?_, by omega, .inr rfl⟩
    refine E_fin Try.f14 _ an14 rfl rfl rfl Try.func14 rfl (by kernel_rfl) ?_
    simp [go_sem, h1]
  · have hn0 : ¬ n = 0 := by omega
    by_cases h2 : bs = []
    · subst h2
      refine ⟨(i * 7).tmod n, ?_, ?_, .inl ?_⟩
      · refine E_fin Try.f14 _ an14 rfl rfl rfl Try.func14 rfl (by kernel_rfl) ?_
        simp [go_sem, h1, hn0, wrap_id (n := i * 7) (by omega)]
      · rw [Int.tmod_eq_emod_of_nonneg (by omega)]; exact Int.emod_nonneg _ (by omega)
      · rw [Int.tmod_eq_emod_of_nonneg (by omega)]; exact Int.emod_lt_of_pos _ (by omega)
    · have hlen : 0 < bs.length := List.length_pos_iff.2 h2
      have hz : ¬ (bs.length : Int) = 0 := by omega
      have m1 : 0 ≤ i.tmod bs.length ∧ i.tmod bs.length < bs.length := by
        rw [Int.tmod_eq_emod_of_nonneg (by omega)]; exact ⟨Int.emod_nonneg _ (by omega), Int.emod_lt_of_pos _ (by omega)⟩
      have m2 : 0 ≤ (i + 1).tmod bs.length ∧ (i + 1).tmod bs.length < bs.length := by
        rw [Int.tmod_eq_emod_of_nonneg (by omega)]; exact ⟨Int.emod_nonneg _ (by omega), Int.emod_lt_of_pos _ (by omega)⟩
      have m3 : 0 ≤ i.tdiv bs.length ∧ i.tdiv bs.length ≤ 1000000 := by
        rw [Int.tdiv_eq_ediv_of_nonneg (by omega)]
        exact ⟨Int.ediv_nonneg (by omega) (by omega), Int.le_trans (Int.ediv_le_self _ (by omega)) (by omega)⟩
      obtain ⟨x, hx⟩ : ∃ x, bs[(i.tmod bs.length).toNat]? = some x := ⟨_, List.getElem?_eq_getElem (by omega)⟩
      obtain ⟨y, hy⟩ : ∃ y, bs[((i + 1).tmod bs.length).toNat]? = some y := ⟨_, List.getElem?_eq_getElem (by omega)⟩
      have bx := hb x (List.mem_of_getElem? hx)
      have bY := hb y (List.mem_of_getElem? hy)
      refine ⟨(x * 31 + y + i.tdiv bs.length).tmod n, ?_, ?_, .inl ?_⟩
      · refine E_fin Try.f14 _ an14 rfl rfl rfl Try.func14 rfl (by kernel_rfl) ?_
        have w0 := wrap_id (n := i.tdiv (bs.length : Int)) (by omega)
        have t1 : (i.tmod bs.length).toNat < bs.length := by omega
        have t2 : ((i + 1).tmod bs.length).toNat < bs.length := by omega
        have hx' : bs[(i.tmod bs.length).toNat] = x := by rw [List.getElem?_eq_getElem t1] at hx; injection hx
        have hy' : bs[((i + 1).tmod bs.length).toNat] = y := by rw [List.getElem?_eq_getElem t2] at hy; injection hy
        simp [go_sem, h1, hn0, h2, hz, hx', hy', m1.1, m2.1, t1, t2, w0, wrap_id (n := i + 1) (by omega), wrap_id (n := x) (by omega), wrap_id (n := y) (by omega), wrap_id (n := x * 31) (by omega), wrap_id (n := x * 31 + y) (by omega), wrap_id (n := x * 31 + y + i.tdiv bs.length) (by omega)]
      · rw [Int.tmod_eq_emod_of_nonneg (by omega)]; exact Int.emod_nonneg _ (by omega)
      · rw [Int.tmod_eq_emod_of_nonneg (by omega)]; exact Int.emod_lt_of_pos _ (by omega)
end Go.Proofs.Ytccoeoppjcegnaa

namespace Go.Proofs.Ytccoeoppjcegnaa
open Go
set_option maxRecDepth 100000
set_option maxHeartbeats 4000000
set_option linter.unusedSimpArgs false
set_option linter.unusedVariables false
theorem readDelta_E (d : Disk) (h of_ : Int) (hd : diskOK d = true) (h1 : inn h 0 3 = true) (h2 : inn of_ 0 3 = true) : E CX 22 [eDisk d, .int .i64 h, .int .i64 of_] [] = some { val := .tuple [eDelta ((rdD d h of_).getD zD), .int .i64 (if (rdD d h of_).isSome then 0 else 5)] } := by
  have g := diskOK_good hd
  have g1 := g.ss; have g2 := g.ps
  have e1 := diskOK_E d (by omega) (by omega)
  have e2 := isHost_E h
  have e3 := isHost_E of_
  have ho : 0 ≤ of_ ∧ of_ ≤ 3 := by simpa [inn] using h2
  have e4 := delta_E d h of_ hd ho
  rw [hd] at e1; rw [h1] at e2; rw [h2] at e3
  have e5 := first_E [(false, 1), (false, 4)] (by simp)
  simp [anys, firstP] at e5
  simp only [eDisk] at e1 e4
  refine E_fin Try.f22 _ an22 rfl rfl rfl Try.func22 rfl (by kernel_rfl) ?_
  cases hx : rdD d h of_ with
  | none =>
    rw [hx] at e4
    simp only [dltV, eDelta, zD] at e4
    simp [go_sem, eDisk, eDelta, zD, e1, e2, e3, e4, e5]
  | some x =>
    rw [hx] at e4
    simp only [dltV, eDelta] at e4
    simp [go_sem, eDisk, eDelta, e1, e2, e3, e4, e5]
theorem encodeDelta_E (x : Delta) (hx : dltOK x = true) : E CX 25 [eDelta x] [] = some { val := .tuple [.str (dltT x), .int .i64 0] } := by
  have e1 := deltaOK_E x
  have e2 := dltText_E x
  rw [hx] at e1
  simp only [eDelta] at e1 e2
  refine E_fin Try.f25 _ an25 rfl rfl rfl Try.func25 rfl (by kernel_rfl) ?_
  simp [go_sem, eDelta, e1, e2]
theorem sEncodeDelta_E (x : Delta) (hx : dltOK x = true) : E CX 27 [eDelta x] [] = some { val := .tuple [.str (dltT x), .int .i64 0] } := by
  have e1 := sDeltaOK_E x
  have e2 := l04Encode_E x
  rw [hx] at e1
  simp only [eDelta] at e1 e2
  refine E_fin Try.f27 _ an27 rfl rfl rfl Try.func27 rfl (by kernel_rfl) ?_
  simp [go_sem, eDelta, e1, e2]
theorem isLongText_E (t : Tx) : E CX 90 [.str t] [] = some { val := .bool (decide (65536 < t.length)) } := by
  refine E_fin Try.f90 _ an90 rfl rfl rfl Try.func90 rfl (by kernel_rfl) ?_
  simp [go_sem]
  omega
theorem decodeDelta_E (t : Tx) (x : Delta) (hx : dltF t = some x) (ht : t.length ≤ 1000) : E CX 26 [.str t] [] = some { val := .tuple [eDelta x, .int .i64 0] } := by
  have e1 := deltaOf_E t (by omega)
  have e2 := isLongText_E t
  rw [hx] at e1
  rw [show decide (65536 < t.length) = false by simp; omega] at e2
  have e5 := first_E [(false, 2), (false, 3)] (by simp)
  simp [anys, firstP] at e5
  simp only [dltV, eDelta] at e1
  refine E_fin Try.f26 _ an26 rfl rfl rfl Try.func26 rfl (by kernel_rfl) ?_
  simp [go_sem, eDelta, e1, e2, e5]
theorem dltF_dltT {x : Delta} (hx : dltOK x = true) : dltF (dltT x) = some x := by
  have h2 := hx
  simp [dltOK, inn] at h2
  have ho : openF (dltT x) 9 = some [x.host, x.gen, x.stamp] := by
    unfold dltT
    refine open_seal (by decide) ?_
    simp [intsOK, isNum, inn]; omega
  unfold dltF
  rw [ho]
  simp only
  rw [if_pos hx]
theorem dltT_len (x : Delta) : (dltT x).length = 16 := by simp [dltT, sealF_length]
theorem rdD_sure (ss : List Tx) (h of_ : Int) : rdD ⟨ss, []⟩ h of_ = match dltF (ss.getD (5 + of_).toNat []) with
    | some x => if x.host = of_ then some x else none
    | none => none := by unfold rdD; rfl
theorem told_sureD {r : Res} {ss : List Tx} {x : AV} {c : Int} (h : toldOwn r ⟨ss, []⟩ x c) (hs : ss.length = 64) : ∃ tl : List Io, r = { val := .tuple [.agg [.ref [0, 0, 0, 0] 0 64, .ref [1, 0, 0, 0] 0 0], x, .int .i64 c], own := [⟨false, 9, 1, ss.map .str⟩, ⟨false, 154, 3, tl.map eIo⟩] } := by
  rcases h with ⟨h, _⟩ | ⟨tl, h⟩
  · have := congrArg (fun d : Disk => d.ss.length) h
    simp only [mty, List.length_nil] at this
    omega
  · refine ⟨tl, ?_⟩
    rw [h]
    simp [hs]
theorem rd_set {ss : List Tx} {h : Int} {x : Delta} (hs : ss.length = 64) (hh : 0 ≤ h ∧ h ≤ 3) (hx : dltOK x = true) (hxh : x.host = h) (k : Int) : rdD ⟨ss.set (5 + h).toNat (dltT x), []⟩ k h = some x := by
  rw [rdD_sure, List.getD_eq_getElem?_getD, List.getElem?_set_self (by omega)]
  simp only [Option.getD_some]
  rw [dltF_dltT hx]
  simp only
  rw [if_pos hxh]
theorem deltaFn_E (b0 b1 : List Int) (h0 : ∀ b ∈ b0, 0 ≤ b ∧ b < 256) (h1 : ∀ b ∈ b1, 0 ≤ b ∧ b < 256) (top0 : b0.length ≤ top) (top1 : b1.length ≤ top) :
    E CX 4 [.sl 1 (b0.map (.int .u8)), .sl 1 (b1.map (.int .u8))] [] = some { val := .bool true } := by
  by_cases l0 : 1048576 < b0.length
  · refine E_fin Try.f4 _ an4 rfl rfl rfl Try.func4 rfl (by kernel_rfl) ?_
    simp [go_sem, show (1048576 : Int) < b0.length by omega]
  by_cases l1 : 1048576 < b1.length
  · refine E_fin Try.f4 _ an4 rfl rfl rfl Try.func4 rfl (by kernel_rfl) ?_
    simp [go_sem, show ¬ (1048576 : Int) < b0.length by omega, show (1048576 : Int) < b1.length by omega]
  obtain ⟨ss, hd, hm, e0⟩ := leaseDisk_E b0 (by omega) h0
  obtain ⟨h, e1, ha, hb⟩ := at_E b1 0 4 h1 (by omega) (by omega) (by omega)
  obtain ⟨r, e2, hc, hdd⟩ := at_E b1 1 3 h1 (by omega) (by omega) (by omega)
  have hh : 0 ≤ h ∧ h ≤ 3 := by omega
  obtain ⟨o, hod⟩ : ∃ o, (h + 1 + r).tmod 4 = o := ⟨_, rfl⟩
  have ho : 0 ≤ o ∧ o ≤ 3 := by
    rw [← hod, Int.tmod_eq_emod_of_nonneg (by omega)]; omega
  have i1 : inn h 0 3 = true := by simp [inn]; omega
  have i2 : inn o 0 3 = true := by simp [inn]; omega
  have s1 : ss.length = 64 := (diskOK_good hd).ss
  -- what was
  have e3 := readDelta_E ⟨ss, []⟩ h h hd i1 i1
  obtain ⟨gg, hgg⟩ : ∃ gg, (rdD0 ⟨ss, []⟩ h h).gen = gg := ⟨_, rfl⟩
  have hg0 : 0 ≤ gg ∧ gg ≤ 3 := by
    rw [← hgg]
    refine ⟨(rdD0_gen _ _ _).1, ?_⟩
    unfold rdD0
    rw [rdD_sure]
    cases hx : dltF (ss.getD (5 + h).toNat []) with
    | none => simp
    | some x =>
      have hmem : Mild (ss.getD (5 + h).toNat []) := by
        rw [getD_at (by omega)]
        exact hm _ (List.getElem_mem _)
      have := hmem.d x hx
      simp only
      split <;> simp
      exact this
  have hgen : ((rdD ⟨ss, []⟩ h h).getD zD).gen = gg := by
    rw [← hgg]; unfold rdD0; cases rdD ⟨ss, []⟩ h h <;> rfl
  -- the first one
  have o1 : dltOK ⟨h, gg + 1, 100⟩ = true := by simp [dltOK, inn]; omega
  have o2 : dltOK ⟨h, gg + 1 + 1, 120⟩ = true := by simp [dltOK, inn]; omega
  have o3 : dltOK ⟨h, gg + 1 + 1, 140⟩ = true := by simp [dltOK, inn]; omega
  have tc : ∀ (ss : List Tx) (now : Int), diskOK ⟨ss, []⟩ = true → inn now 0 10000000 = true → tcode ⟨ss, []⟩ h now = 0 := by
    intro ss now q1 q2
    simp [tcode, q1, q2, i1]
  have tA1 : takeA ⟨ss, []⟩ h 100 = (⟨ss.set (5 + h).toNat (dltT ⟨h, gg + 1, 100⟩), []⟩, ⟨h, gg + 1, 100⟩, 0) := by
    simp [takeA, tc ss 100 hd (by decide), hgg, show ¬ gg = 1000000 by omega, nextD, putD_sure]
  obtain ⟨r1, e4, t4⟩ := takeDelta_E ⟨ss, []⟩ h 100 (by simp only; omega) (by simp)
  rw [tA1] at t4
  have d2 : diskOK ⟨ss.set (5 + h).toNat (dltT ⟨h, gg + 1, 100⟩), []⟩ = true := set_ok hd (by rw [dltT_len]; omega)
  have rd1 := rd_set s1 hh o1 rfl
  have s2 : (ss.set (5 + h).toNat (dltT ⟨h, gg + 1, 100⟩)).length = 64 := by simpa using s1
  obtain ⟨tl1, rfl⟩ := told_sureD t4 s2
  generalize hS1 : ss.set (5 + h).toNat (dltT ⟨h, gg + 1, 100⟩) = S1 at *
  -- the second one
  have g1 : (rdD0 ⟨S1, []⟩ h h).gen = gg + 1 := by unfold rdD0; rw [rd1]; rfl
  have tA2 : takeA ⟨S1, []⟩ h 120 = (⟨S1.set (5 + h).toNat (dltT ⟨h, gg + 1 + 1, 120⟩), []⟩, ⟨h, gg + 1 + 1, 120⟩, 0) := by
    simp [takeA, tc S1 120 d2 (by decide), g1, show ¬ gg + 1 = 1000000 by omega, nextD, putD_sure]
  obtain ⟨r2, e5, t5⟩ := takeDelta_E ⟨S1, []⟩ h 120 (by simp only; omega) (by simp)
  rw [tA2] at t5
  have d3 : diskOK ⟨S1.set (5 + h).toNat (dltT ⟨h, gg + 1 + 1, 120⟩), []⟩ = true := set_ok d2 (by rw [dltT_len]; omega)
  have rd2 := rd_set s2 hh o2 rfl
  have s3 : (S1.set (5 + h).toNat (dltT ⟨h, gg + 1 + 1, 120⟩)).length = 64 := by simpa using s2
  obtain ⟨tl2, rfl⟩ := told_sureD t5 s3
  generalize hS2 : S1.set (5 + h).toNat (dltT ⟨h, gg + 1 + 1, 120⟩) = S2 at *
  -- renewed
  have rc : ∀ (ss : List Tx) (x : Delta) (now : Int), diskOK ⟨ss, []⟩ = true → dltOK x = true → inn now 0 10000000 = true → rcode ⟨ss, []⟩ x now = 0 := by
    intro ss x now q1 q2 q3
    have q4 : inn x.host 0 3 = true := by simp only [dltOK, Bool.and_eq_true] at q2; exact q2.1.1
    simp [rcode, tcode, q1, q2, q3, q4]
  have rA1 : renewA ⟨S2, []⟩ ⟨h, gg + 1 + 1, 120⟩ 140 = (⟨S2.set (5 + h).toNat (dltT ⟨h, gg + 1 + 1, 140⟩), []⟩, ⟨h, gg + 1 + 1, 140⟩, 0) := by
    simp [renewA, rc S2 _ 140 d3 o2 (by decide), rd2, renewN, putD_sure]
  obtain ⟨r3, e6, t6⟩ := renewDelta_E ⟨S2, []⟩ ⟨h, gg + 1 + 1, 120⟩ 140 (by simp only; omega) (by simp)
  rw [rA1] at t6
  have d4 : diskOK ⟨S2.set (5 + h).toNat (dltT ⟨h, gg + 1 + 1, 140⟩), []⟩ = true := set_ok d3 (by rw [dltT_len]; omega)
  have rd3 := rd_set s3 hh o3 rfl
  have s4 : (S2.set (5 + h).toNat (dltT ⟨h, gg + 1 + 1, 140⟩)).length = 64 := by simpa using s3
  obtain ⟨tl3, rfl⟩ := told_sureD t6 s4
  generalize hS3 : S2.set (5 + h).toNat (dltT ⟨h, gg + 1 + 1, 140⟩) = S3 at *
  have e7 := readDelta_E ⟨S3, []⟩ o h d4 i2 i1
  rw [rd3 o] at e7
  have rA2 : renewA ⟨S3, []⟩ ⟨h, gg + 1, 100⟩ 150 = (⟨S3, []⟩, zD, 13) := by
    have : ¬ (gg + 1 + 1 = gg + 1) := by omega
    simp [renewA, rc S3 _ 150 d4 o1 (by decide), rd3]
  have rA3 : renewA ⟨S3, []⟩ ⟨h, gg + 1 + 1, 140⟩ 130 = (⟨S3, []⟩, zD, 17) := by
    simp [renewA, rc S3 _ 130 d4 o3 (by decide), rd3]
  obtain ⟨r4, e8, t8⟩ := renewDelta_E ⟨S3, []⟩ ⟨h, gg + 1, 100⟩ 150 (by simp only; omega) (by simp)
  rw [rA2] at t8
  obtain ⟨tl4, rfl⟩ := told_sureD t8 s4
  obtain ⟨r5, e9, t9⟩ := renewDelta_E ⟨S3, []⟩ ⟨h, gg + 1 + 1, 140⟩ 130 (by simp only; omega) (by simp)
  rw [rA3] at t9
  obtain ⟨tl5, rfl⟩ := told_sureD t9 s4
  have e10 := encodeDelta_E _ o3
  have e11 := decodeDelta_E (dltT ⟨h, gg + 1 + 1, 140⟩) _ (dltF_dltT o3) (by rw [dltT_len]; omega)
  have e12 := sEncodeDelta_E _ o3
  have e13 := deltaOK_E ⟨h, gg + 1 + 1, 140⟩
  rw [o3] at e13
  generalize dltT ⟨h, gg + 1 + 1, 140⟩ = tx at *
  generalize (rdD ⟨ss, []⟩ h h).getD zD = w at *
  subst hgen
  simp only [eDisk, eDelta, zD, List.map_nil] at e3 e4 e5 e6 e7 e8 e9 e10 e11 e12 e13
  simp at e7
  have n0 : ¬ (1048576 : Int) < b0.length := by omega
  have n1 : ¬ (1048576 : Int) < b1.length := by omega
  clear hS1 hS2 hS3 t4 t5 t6 t8 t9
  rcases e0 with e0 | e0
  · cases hcode : (rdD ⟨ss, []⟩ h h).isSome
    · rw [hcode] at e3
      simp at e3
      refine E_fin Try.f4 _ an4 rfl rfl rfl Try.func4 rfl (by kernel_rfl) ?_
      simp [go_sem, eDelta, l0, l1, n0, n1, e0, e1, e2, hod, e3, e4, e5, e6, e7, e8, e9, e10, e11, e12, e13, s2, s3, s4, wrap_id (n := h + 1) (by omega), wrap_id (n := h + 1 + r) (by omega), wrap_id (n := w.gen + 1) (by omega), wrap_id (n := w.gen + 1 + 1) (by omega)]
    · rw [hcode] at e3
      simp at e3
      refine E_fin Try.f4 _ an4 rfl rfl rfl Try.func4 rfl (by kernel_rfl) ?_
      simp [go_sem, eDelta, l0, l1, n0, n1, e0, e1, e2, hod, e3, e4, e5, e6, e7, e8, e9, e10, e11, e12, e13, s2, s3, s4, wrap_id (n := h + 1) (by omega), wrap_id (n := h + 1 + r) (by omega), wrap_id (n := w.gen + 1) (by omega), wrap_id (n := w.gen + 1 + 1) (by omega)]
  · cases hcode : (rdD ⟨ss, []⟩ h h).isSome
    · rw [hcode] at e3
      simp at e3
      refine E_fin Try.f4 _ an4 rfl rfl rfl Try.func4 rfl (by kernel_rfl) ?_
      simp [go_sem, eDelta, l0, l1, n0, n1, e0, e1, e2, hod, e3, e4, e5, e6, e7, e8, e9, e10, e11, e12, e13, s2, s3, s4, wrap_id (n := h + 1) (by omega), wrap_id (n := h + 1 + r) (by omega), wrap_id (n := w.gen + 1) (by omega), wrap_id (n := w.gen + 1 + 1) (by omega)]
    · rw [hcode] at e3
      simp at e3
      refine E_fin Try.f4 _ an4 rfl rfl rfl Try.func4 rfl (by kernel_rfl) ?_
      simp [go_sem, eDelta, l0, l1, n0, n1, e0, e1, e2, hod, e3, e4, e5, e6, e7, e8, e9, e10, e11, e12, e13, s2, s3, s4, wrap_id (n := h + 1) (by omega), wrap_id (n := h + 1 + r) (by omega), wrap_id (n := w.gen + 1) (by omega), wrap_id (n := w.gen + 1 + 1) (by omega)]
end Go.Proofs.Ytccoeoppjcegnaa

namespace Go.Proofs.Ytccoeoppjcegnaa
open Go
set_option maxRecDepth 100000
theorem told_u8 : ∀ bs, Typed Try.prog 5 bs → ∃ x : Int, mkVal (tagg Try.prog 5) bs = .int .u8 x ∧ (0 ≤ x ∧ x < 256) := by
  intro bs h
  obtain ⟨x, rfl, w⟩ := typed_int Try.underlying5 h
  refine ⟨x, by rw [show tagg Try.prog 5 = false by kernel_rfl]; rfl, ?_⟩
  rw [show IntKind.u8.min = 0 from rfl, show IntKind.u8.max = 255 from rfl] at w
  omega
theorem told_Bytes : ∀ bs, Typed Try.prog 22 bs → ∃ x : List Int, mkVal (tagg Try.prog 22) bs = .sl 1 (x.map (.int .u8)) ∧ x.length ≤ top ∧ ∀ b ∈ x, 0 ≤ b ∧ b < 256 := by
  intro bs h
  obtain ⟨x, e, w, q⟩ := typed_list Try.underlying22 told_u8 h
  rw [show Try.prog.cellsOf 5 = 1 by kernel_rfl] at e
  cases e
  exact ⟨x, by rw [show tagg Try.prog 22 = false by kernel_rfl]; rfl, w, q⟩
end Go.Proofs.Ytccoeoppjcegnaa
