/- A reading of the loaded code over plain data, its soundness, and what functions answer by it (part 11; joined by program). No condition. -/
import Derived.Test.YtccoeoppjcegnaaKL10
set_option linter.all false
namespace Go.Proofs.Ytccoeoppjcegnaa
open Go
set_option maxRecDepth 100000
set_option maxHeartbeats 4000000
set_option linter.unusedSimpArgs false
set_option linter.unusedVariables false
/-- Behind the last other host comes the next phase. -/
def finP (q : Px) : Px := if q.next < 4 then q else if q.phase = 4 then { q with phase := 5 } else { q with phase := 3, value := if 0 < q.bestBal then q.best else q.value }
def nx0 (p : Px) : Int := if p.next = p.host then p.next + 1 else p.next
def readB (p : Px) (b : Bl) : Px :=
  if p.ver < b.ver ∨ p.ballot < b.mbal then { p with next := nx0 p, phase := 6 }
  else finP { p with next := if nx0 p + 1 = p.host then nx0 p + 1 + 1 else nx0 p + 1, best := if p.phase ≠ 4 ∧ p.bestBal < b.bal then b.inp else p.best, bestBal := if p.phase ≠ 4 ∧ p.bestBal < b.bal then b.bal else p.bestBal }
def readP (p : Px) (bs : List Bl) : Px := if nx0 p < 4 then readB p (ofV (bs.getD (nx0 p).toNat zBl) p.ver) else finP { p with next := nx0 p }
def stopW (p : Px) (own : Bl) : Bool := decide (p.ver < own.ver) || decide (p.ballot < own.mbal) || (decide (p.phase = 3) == !decide (own.mbal = p.ballot))
def writeP (p : Px) (own : Bl) : Px × Bl :=
  if p.phase = 3 then ({ p with phase := 4, next := 0 }, ⟨own.ver, p.ballot, p.ballot, p.value⟩)
  else ({ p with phase := 2, next := 0, best := own.inp, bestBal := own.bal }, ⟨own.ver, p.ballot, own.bal, own.inp⟩)
def ownB (p : Px) (bs : List Bl) : Bl := ofV (bs.getD p.host.toNat zBl) p.ver
def stepP (p : Px) (bs : List Bl) : Px × List Bl :=
  if p.phase = 1 ∨ p.phase = 3 then
    if stopW p (ownB p bs) then ({ p with phase := 6 }, bs) else ((writeP p (ownB p bs)).1, bs.set p.host.toNat (writeP p (ownB p bs)).2)
  else (readP p bs, bs)
structure PxIn (p : Px) (bs : List Bl) : Prop where
  len : bs.length = 4
  host : 0 ≤ p.host ∧ p.host ≤ 3
  next : 0 ≤ p.next ∧ p.next ≤ 100
theorem getD_at {α : Type} {l : List α} {n : Nat} (h : n < l.length) (z : α) : l.getD n z = l[n] := by simp [h]
theorem step_write (p : Px) (bs : List Bl) (g : PxIn p bs) (hw : p.phase = 1 ∨ p.phase = 3) : E CX 125 [ePx p, .ref [1] 0 4] [([1], ⟨false, 138, 4, bs.map eBl⟩)] = some { val := ePx (stepP p bs).1, io := [⟨false, 138, 4, (stepP p bs).2.map eBl⟩] } := by
  refine E_fin Try.f125 _ an125 rfl rfl rfl Try.func125 rfl (by kernel_rfl) ?_
  have g1 := g.len; have g2 := g.host; have g3 := g.next
  have hlt : p.host.toNat < bs.length := by omega
  have hlt4 : p.host.toNat < 4 := by omega
  have e1 := of_E bs[p.host.toNat] p.ver
  unfold stepP
  rw [if_pos hw]
  have ho : ownB p bs = ofV bs[p.host.toNat] p.ver := by unfold ownB; rw [getD_at hlt]
  rw [ho]
  unfold stopW writeP
  generalize ofV bs[p.host.toNat] p.ver = o at *
  have hset : ∀ x : Bl, (bs.set p.host.toNat x).map eBl = (bs.map eBl).set p.host.toNat (eBl x) := fun x => List.map_set
  obtain ⟨ov, om, ob, oi⟩ := o
  simp only [eBl] at e1
  by_cases a1 : p.ver < ov
  · rcases hw with c | c
    · simp [go_sem, ePx, eBl, c, g1, g2.1, g2.2, hlt, hlt4, e1, a1]
    · simp [go_sem, ePx, eBl, c, g1, g2.1, g2.2, hlt, hlt4, e1, a1]
  · by_cases a2 : p.ballot < om
    · rcases hw with c | c
      · simp [go_sem, ePx, eBl, c, g1, g2.1, g2.2, hlt, hlt4, e1, a1, a2]
      · simp [go_sem, ePx, eBl, c, g1, g2.1, g2.2, hlt, hlt4, e1, a1, a2]
    · by_cases a3 : om = p.ballot
      · rcases hw with c | c
        · simp [go_sem, ePx, eBl, c, g1, g2.1, g2.2, hlt, hlt4, e1, a1, a2, a3]
        · simp [go_sem, ePx, eBl, c, g1, g2.1, g2.2, hlt, hlt4, e1, a1, a2, a3, hset]
      · have a3' : (om == p.ballot) = false := by simp [a3]
        rcases hw with c | c
        · simp [go_sem, ePx, eBl, c, g1, g2.1, g2.2, hlt, hlt4, e1, a1, a2, a3, a3', hset]
        · simp [go_sem, ePx, eBl, c, g1, g2.1, g2.2, hlt, hlt4, e1, a1, a2, a3, a3']
theorem step_read (p : Px) (bs : List Bl) (g : PxIn p bs) (hw : ¬ (p.phase = 1 ∨ p.phase = 3)) : E CX 125 [ePx p, .ref [1] 0 4] [([1], ⟨false, 138, 4, bs.map eBl⟩)] = some { val := ePx (stepP p bs).1, io := [⟨false, 138, 4, (stepP p bs).2.map eBl⟩] } := by
  have g1 := g.len; have g2 := g.host; have g3 := g.next
  simp only [not_or] at hw
  unfold stepP
  rw [if_neg (by simp [hw])]
  have w1 := wrap_id (n := p.next + 1) (by omega)
  have w2 := wrap_id (n := p.next + 1 + 1) (by omega)
  have w3 := wrap_id (n := p.next + 1 + 1 + 1) (by omega)
  have w4 := wrap_id (n := p.host + 1) (by omega)
  have w7 := wrap_id (n := p.host) (by omega)
  have w5 := wrap_id (n := p.host + 1 + 1) (by omega)
  have w6 := wrap_id (n := p.host + 1 + 1 + 1) (by omega)
  by_cases hn : nx0 p < 4
  · have hn0 : 0 ≤ nx0 p := by unfold nx0; split <;> omega
    have hlt : (nx0 p).toNat < bs.length := by omega
    have hlt4 : (nx0 p).toNat < 4 := by omega
    have e1 := of_E bs[(nx0 p).toNat] p.ver
    have hr : readP p bs = readB p (ofV bs[(nx0 p).toNat] p.ver) := by unfold readP; rw [if_pos hn, getD_at hlt]
    rw [hr]
    unfold readB finP
    generalize ofV bs[(nx0 p).toNat] p.ver = o at *
    obtain ⟨ov, om, ob, oi⟩ := o
    simp only [eBl] at e1
    by_cases c0 : p.next = p.host
    · have hx : nx0 p = p.host + 1 := by unfold nx0; rw [if_pos c0, c0]
      simp only [hx] at hn hn0 hlt hlt4 e1 ⊢
      have c1 : ¬ (p.host + 1 + 1 = p.host) := by omega
      by_cases a1 : p.ver < ov
      · refine E_fin Try.f125 _ an125 rfl rfl rfl Try.func125 rfl (by kernel_rfl) ?_
        simp [go_sem, ePx, eBl, hw, c0, g1, g2.1, hlt, hlt4, hn, hn0, e1, a1, w4, w5]
      · by_cases a2 : p.ballot < om
        · refine E_fin Try.f125 _ an125 rfl rfl rfl Try.func125 rfl (by kernel_rfl) ?_
          simp [go_sem, ePx, eBl, hw, c0, g1, g2.1, hlt, hlt4, hn, hn0, e1, a1, a2, w4, w5]
        · by_cases a3 : p.phase = 4
          · by_cases a5 : p.host + 1 + 1 < 4
            · refine E_fin Try.f125 _ an125 rfl rfl rfl Try.func125 rfl (by kernel_rfl) ?_
              simp [go_sem, ePx, eBl, hw, c0, c1, g1, g2.1, hlt, hlt4, hn, hn0, e1, a1, a2, a3, a5, w4, w5]
            · refine E_fin Try.f125 _ an125 rfl rfl rfl Try.func125 rfl (by kernel_rfl) ?_
              simp [go_sem, ePx, eBl, hw, c0, c1, g1, g2.1, hlt, hlt4, hn, hn0, e1, a1, a2, a3, a5, w4, w5]
          · by_cases a4 : p.bestBal < ob
            · by_cases a5 : p.host + 1 + 1 < 4
              · refine E_fin Try.f125 _ an125 rfl rfl rfl Try.func125 rfl (by kernel_rfl) ?_
                simp [go_sem, ePx, eBl, hw, c0, c1, g1, g2.1, hlt, hlt4, hn, hn0, e1, a1, a2, a3, a4, a5, w4, w5]
              · by_cases a6 : 0 < ob
                · refine E_fin Try.f125 _ an125 rfl rfl rfl Try.func125 rfl (by kernel_rfl) ?_
                  simp [go_sem, ePx, eBl, hw, c0, c1, g1, g2.1, hlt, hlt4, hn, hn0, e1, a1, a2, a3, a4, a5, a6, w4, w5]
                · refine E_fin Try.f125 _ an125 rfl rfl rfl Try.func125 rfl (by kernel_rfl) ?_
                  simp [go_sem, ePx, eBl, hw, c0, c1, g1, g2.1, hlt, hlt4, hn, hn0, e1, a1, a2, a3, a4, a5, a6, w4, w5]
            · by_cases a5 : p.host + 1 + 1 < 4
              · refine E_fin Try.f125 _ an125 rfl rfl rfl Try.func125 rfl (by kernel_rfl) ?_
                simp [go_sem, ePx, eBl, hw, c0, c1, g1, g2.1, hlt, hlt4, hn, hn0, e1, a1, a2, a3, a4, a5, w4, w5]
              · by_cases a6 : 0 < p.bestBal
                · refine E_fin Try.f125 _ an125 rfl rfl rfl Try.func125 rfl (by kernel_rfl) ?_
                  simp [go_sem, ePx, eBl, hw, c0, c1, g1, g2.1, hlt, hlt4, hn, hn0, e1, a1, a2, a3, a4, a5, a6, w4, w5]
                · refine E_fin Try.f125 _ an125 rfl rfl rfl Try.func125 rfl (by kernel_rfl) ?_
                  simp [go_sem, ePx, eBl, hw, c0, c1, g1, g2.1, hlt, hlt4, hn, hn0, e1, a1, a2, a3, a4, a5, a6, w4, w5]
    · have hx : nx0 p = p.next := by unfold nx0; rw [if_neg c0]
      simp only [hx] at hn hn0 hlt hlt4 e1 ⊢
      by_cases a1 : p.ver < ov
      · refine E_fin Try.f125 _ an125 rfl rfl rfl Try.func125 rfl (by kernel_rfl) ?_
        simp [go_sem, ePx, eBl, hw, c0, g1, g2.1, hlt, hlt4, hn, hn0, e1, a1, w1, w2]
      · by_cases a2 : p.ballot < om
        · refine E_fin Try.f125 _ an125 rfl rfl rfl Try.func125 rfl (by kernel_rfl) ?_
          simp [go_sem, ePx, eBl, hw, c0, g1, g2.1, hlt, hlt4, hn, hn0, e1, a1, a2, w1, w2]
        · by_cases c1 : p.next + 1 = p.host
          · by_cases a3 : p.phase = 4
            · by_cases a5 : p.host + 1 < 4
              · refine E_fin Try.f125 _ an125 rfl rfl rfl Try.func125 rfl (by kernel_rfl) ?_
                simp [go_sem, ePx, eBl, hw, c0, c1, g1, g2.1, hlt, hlt4, hn, hn0, e1, a1, a2, a3, a5, w1, w2, w4, w5, w7]
              · refine E_fin Try.f125 _ an125 rfl rfl rfl Try.func125 rfl (by kernel_rfl) ?_
                simp [go_sem, ePx, eBl, hw, c0, c1, g1, g2.1, hlt, hlt4, hn, hn0, e1, a1, a2, a3, a5, w1, w2, w4, w5, w7]
            · by_cases a4 : p.bestBal < ob
              · by_cases a5 : p.host + 1 < 4
                · refine E_fin Try.f125 _ an125 rfl rfl rfl Try.func125 rfl (by kernel_rfl) ?_
                  simp [go_sem, ePx, eBl, hw, c0, c1, g1, g2.1, hlt, hlt4, hn, hn0, e1, a1, a2, a3, a4, a5, w1, w2, w4, w5, w7]
                · by_cases a6 : 0 < ob
                  · refine E_fin Try.f125 _ an125 rfl rfl rfl Try.func125 rfl (by kernel_rfl) ?_
                    simp [go_sem, ePx, eBl, hw, c0, c1, g1, g2.1, hlt, hlt4, hn, hn0, e1, a1, a2, a3, a4, a5, a6, w1, w2, w4, w5, w7]
                  · refine E_fin Try.f125 _ an125 rfl rfl rfl Try.func125 rfl (by kernel_rfl) ?_
                    simp [go_sem, ePx, eBl, hw, c0, c1, g1, g2.1, hlt, hlt4, hn, hn0, e1, a1, a2, a3, a4, a5, a6, w1, w2, w4, w5, w7]
              · by_cases a5 : p.host + 1 < 4
                · refine E_fin Try.f125 _ an125 rfl rfl rfl Try.func125 rfl (by kernel_rfl) ?_
                  simp [go_sem, ePx, eBl, hw, c0, c1, g1, g2.1, hlt, hlt4, hn, hn0, e1, a1, a2, a3, a4, a5, w1, w2, w4, w5, w7]
                · by_cases a6 : 0 < p.bestBal
                  · refine E_fin Try.f125 _ an125 rfl rfl rfl Try.func125 rfl (by kernel_rfl) ?_
                    simp [go_sem, ePx, eBl, hw, c0, c1, g1, g2.1, hlt, hlt4, hn, hn0, e1, a1, a2, a3, a4, a5, a6, w1, w2, w4, w5, w7]
                  · refine E_fin Try.f125 _ an125 rfl rfl rfl Try.func125 rfl (by kernel_rfl) ?_
                    simp [go_sem, ePx, eBl, hw, c0, c1, g1, g2.1, hlt, hlt4, hn, hn0, e1, a1, a2, a3, a4, a5, a6, w1, w2, w4, w5, w7]
          · by_cases a3 : p.phase = 4
            · by_cases a5 : p.next + 1 < 4
              · refine E_fin Try.f125 _ an125 rfl rfl rfl Try.func125 rfl (by kernel_rfl) ?_
                simp [go_sem, ePx, eBl, hw, c0, c1, g1, g2.1, hlt, hlt4, hn, hn0, e1, a1, a2, a3, a5, w1, w2]
              · refine E_fin Try.f125 _ an125 rfl rfl rfl Try.func125 rfl (by kernel_rfl) ?_
                simp [go_sem, ePx, eBl, hw, c0, c1, g1, g2.1, hlt, hlt4, hn, hn0, e1, a1, a2, a3, a5, w1, w2]
            · by_cases a4 : p.bestBal < ob
              · by_cases a5 : p.next + 1 < 4
                · refine E_fin Try.f125 _ an125 rfl rfl rfl Try.func125 rfl (by kernel_rfl) ?_
                  simp [go_sem, ePx, eBl, hw, c0, c1, g1, g2.1, hlt, hlt4, hn, hn0, e1, a1, a2, a3, a4, a5, w1, w2]
                · by_cases a6 : 0 < ob
                  · refine E_fin Try.f125 _ an125 rfl rfl rfl Try.func125 rfl (by kernel_rfl) ?_
                    simp [go_sem, ePx, eBl, hw, c0, c1, g1, g2.1, hlt, hlt4, hn, hn0, e1, a1, a2, a3, a4, a5, a6, w1, w2]
                  · refine E_fin Try.f125 _ an125 rfl rfl rfl Try.func125 rfl (by kernel_rfl) ?_
                    simp [go_sem, ePx, eBl, hw, c0, c1, g1, g2.1, hlt, hlt4, hn, hn0, e1, a1, a2, a3, a4, a5, a6, w1, w2]
              · by_cases a5 : p.next + 1 < 4
                · refine E_fin Try.f125 _ an125 rfl rfl rfl Try.func125 rfl (by kernel_rfl) ?_
                  simp [go_sem, ePx, eBl, hw, c0, c1, g1, g2.1, hlt, hlt4, hn, hn0, e1, a1, a2, a3, a4, a5, w1, w2]
                · by_cases a6 : 0 < p.bestBal
                  · refine E_fin Try.f125 _ an125 rfl rfl rfl Try.func125 rfl (by kernel_rfl) ?_
                    simp [go_sem, ePx, eBl, hw, c0, c1, g1, g2.1, hlt, hlt4, hn, hn0, e1, a1, a2, a3, a4, a5, a6, w1, w2]
                  · refine E_fin Try.f125 _ an125 rfl rfl rfl Try.func125 rfl (by kernel_rfl) ?_
                    simp [go_sem, ePx, eBl, hw, c0, c1, g1, g2.1, hlt, hlt4, hn, hn0, e1, a1, a2, a3, a4, a5, a6, w1, w2]
  · have hr : readP p bs = finP { p with next := nx0 p } := by unfold readP; rw [if_neg hn]
    rw [hr]
    unfold finP
    by_cases c0 : p.next = p.host
    · have hx : nx0 p = p.host + 1 := by unfold nx0; rw [if_pos c0, c0]
      simp only [hx] at hn ⊢
      by_cases a3 : p.phase = 4
      · refine E_fin Try.f125 _ an125 rfl rfl rfl Try.func125 rfl (by kernel_rfl) ?_
        simp [go_sem, ePx, eBl, hw, c0, hn, a3, w4]
      · by_cases a6 : 0 < p.bestBal
        · refine E_fin Try.f125 _ an125 rfl rfl rfl Try.func125 rfl (by kernel_rfl) ?_
          simp [go_sem, ePx, eBl, hw, c0, hn, a3, a6, w4]
        · refine E_fin Try.f125 _ an125 rfl rfl rfl Try.func125 rfl (by kernel_rfl) ?_
          simp [go_sem, ePx, eBl, hw, c0, hn, a3, a6, w4]
    · have hx : nx0 p = p.next := by unfold nx0; rw [if_neg c0]
      simp only [hx] at hn ⊢
      by_cases a3 : p.phase = 4
      · refine E_fin Try.f125 _ an125 rfl rfl rfl Try.func125 rfl (by kernel_rfl) ?_
        simp [go_sem, ePx, eBl, hw, c0, hn, a3]
      · by_cases a6 : 0 < p.bestBal
        · refine E_fin Try.f125 _ an125 rfl rfl rfl Try.func125 rfl (by kernel_rfl) ?_
          simp [go_sem, ePx, eBl, hw, c0, hn, a3, a6]
        · refine E_fin Try.f125 _ an125 rfl rfl rfl Try.func125 rfl (by kernel_rfl) ?_
          simp [go_sem, ePx, eBl, hw, c0, hn, a3, a6]
theorem step_E (p : Px) (bs : List Bl) (g : PxIn p bs) : E CX 125 [ePx p, .ref [1] 0 4] [([1], ⟨false, 138, 4, bs.map eBl⟩)] = some { val := ePx (stepP p bs).1, io := [⟨false, 138, 4, (stepP p bs).2.map eBl⟩] } := by
  by_cases hw : p.phase = 1 ∨ p.phase = 3
  · exact step_write p bs g hw
  · exact step_read p bs g hw
end Go.Proofs.Ytccoeoppjcegnaa

namespace Go.Proofs.Ytccoeoppjcegnaa
open Go
set_option maxRecDepth 100000
set_option linter.unusedSimpArgs false
set_option linter.unusedVariables false
def E64 : List Tx := List.replicate 64 []
theorem E64_get (n : Nat) : E64.getD n [] = [] := by
  unfold E64
  rw [List.getD_eq_getElem?_getD, List.getElem?_replicate]
  split <;> rfl
def d64 : Disk := ⟨E64, []⟩
theorem d64_ok : diskOK d64 = true := by decide
theorem updT_length (u : Update) : (updT u).length = 8 + u.data.length := by simp [updT, sealF, packF_length]; omega
theorem jmF_ok (h : Int) (hh : 0 ≤ h ∧ h ≤ 3) : ∀ (l : List Update) (i : Nat), i + l.length ≤ 5 → (∀ u ∈ l, u.data.length ≤ 8) → ∀ m ∈ jmF h l i, moveOK m = true ∧ m.data.length ≤ 80 := by
  intro l
  induction l with
  | nil => intro i _ _ m hm; cases hm
  | cons u l ih =>
    intro i hi hd m hm
    simp only [List.length_cons] at hi
    simp only [jmF, List.mem_cons] at hm
    rcases hm with rfl | hm
    · have := updT_length u
      have := hd u (by simp)
      simp [moveOK, inn]
      omega
    · exact ih _ (by omega) (fun x hx => hd x (by simp [hx])) m hm
theorem plan0_ok (h q : Int) (l : List Update) (hh : 0 ≤ h ∧ h ≤ 3) (hl : l.length ≤ 4) (hu : ∀ x ∈ l, 9 ≤ x.at_ ∧ x.at_ ≤ 28 ∧ x.data.length ≤ 8) : ∀ m ∈ plan0 h q l, moveOK m = true ∧ m.data.length ≤ 80 := by
  have s7 : ∀ a b : Int, (sealF 7 [a, b]).length = 12 := by intro a b; simp [sealF, packF_length]
  intro m hm
  unfold plan0 at hm
  simp only [List.mem_append, List.mem_cons, List.mem_nil_iff, or_false, List.mem_map] at hm
  rcases hm with (hm | rfl | rfl | rfl) | ⟨u, hu', rfl⟩ | rfl | rfl
  · exact jmF_ok h hh l 0 (by omega) (fun u h => (hu u h).2.2) m hm
  · exact ⟨by decide, by decide⟩
  · have := s7 l.length q; simp [moveOK, inn]; omega
  · exact ⟨by decide, by decide⟩
  · obtain ⟨a1, a2, a3⟩ := hu u hu'
    refine ⟨?_, show u.data.length ≤ 80 by omega⟩
    have i1 : inn u.at_ 0 63 = true := by simp [inn]; omega
    have i2 : decide (u.data.length ≤ 80) = true := by simp; omega
    show (if (1 : Int) = 2 then _ else (decide ((1 : Int) = 1) && inn u.at_ 0 63 && decide (u.data.length ≤ 80))) = true
    rw [if_neg (by omega), i1, i2]
    rfl
  · exact ⟨by decide, by decide⟩
  · have := s7 0 q; simp [moveOK, inn]; omega
def d1 (h q : Int) (l : List Update) : Disk := ((planF h q l).foldl (mvT h) (d64, [])).1
theorem d1_eq (h q : Int) (l : List Update) (hh : 0 ≤ h ∧ h ≤ 3) (hl : l.length ≤ 4) : d1 h q l = if l = [] then d64 else ⟨(plan0 h q l).foldl wr E64, []⟩ := by
  unfold d1
  by_cases hne : l = []
  · subst hne; rfl
  · rw [if_neg hne, planF_eq h q l hne]
    exact moves_end h (plan0 h q l) E64 (by simp [plan0, jmF_length]; omega)
theorem d1_ok (h q : Int) (l : List Update) (hh : 0 ≤ h ∧ h ≤ 3) (hq : 0 ≤ q ∧ q ≤ 2147483647) (hl : l.length ≤ 4) (hu : ∀ x ∈ l, 9 ≤ x.at_ ∧ x.at_ ≤ 28 ∧ x.data.length ≤ 8) :
    diskOK (d1 h q l) = true ∧ (d1 h q l).ss.length = 64 ∧ (d1 h q l).ps = [] ∧ (d1 h q l).ss.take 39 = (l.foldl setU E64).take 39 ∧ movesCode d64 h (planF h q l) = 0 ∧ (planF h q l).length ≤ 20 ∧ (∀ m ∈ planF h q l, m.kind ≠ 2 → 0 ≤ m.at_ ∧ m.at_.toNat < 64) ∧
    ∀ h' : Int, 0 ≤ h' ∧ h' ≤ 3 → ∃ q' : Int, jAns (d1 h q l) h' h = ([], q', 0) := by
  have hask : askC d64 h = 0 := by
    have : inn h 0 3 = true := by simp [inn]; omega
    simp [askC, d64_ok, this]
  have key : ∀ p : List Move, p.length ≤ 20 → (∀ m ∈ p, moveOK m = true) → movesCode d64 h p = 0 ∧ ∀ m ∈ p, m.kind ≠ 2 → 0 ≤ m.at_ ∧ m.at_.toNat < 64 := by
    intro p hp hm
    have ha : p.all moveOK = true := List.all_eq_true.2 hm
    refine ⟨by simp [movesCode, firstP, hask, ha]; omega, fun m h1 h2 => ?_⟩
    have := hm m h1
    simp [moveOK, h2, inn] at this
    omega
  rw [d1_eq h q l hh hl]
  by_cases hne : l = []
  · subst hne
    rw [if_pos rfl]
    obtain ⟨k1, k2⟩ := key [] (by simp) (by simp)
    refine ⟨d64_ok, by decide, rfl, rfl, k1, by simp [planF], by simp [planF], fun h' hh' => ⟨0, ?_⟩⟩
    have hj : jcode d64 h' h = 0 := by
      have i1 : inn h' 0 3 = true := by simp [inn]; omega
      have i2 : inn h 0 3 = true := by simp [inn]; omega
      simp [jcode, d64_ok, i1, i2]
    have hr : rdL d64.ss d64.ps h' (39 + 6 * h) = [] := by
      show E64.getD (39 + 6 * h).toNat [] = []
      exact E64_get _
    simp [jAns, hj, waitF, hr]
  · rw [if_neg hne]
    have hp := plan0_ok h q l hh hl hu
    have hlen : (plan0 h q l).length ≤ 19 := by simp [plan0, jmF_length]; omega
    have h64 : ((plan0 h q l).foldl wr E64).length = 64 := by rw [wr_length]; decide
    have hsm := wr_small (plan0 h q l) E64 (fun m hm => (hp m hm).2) (by intro s hs; simp [E64] at hs; simp [hs])
    have hok : diskOK ⟨(plan0 h q l).foldl wr E64, []⟩ = true := by
      simp only [diskOK, h64]
      simp
      exact hsm
    obtain ⟨k1, k2⟩ := key (planF h q l) (by rw [planF_eq h q l hne]; simp; omega) (by
      intro m hm
      rw [planF_eq h q l hne] at hm
      simp only [List.mem_append, List.mem_singleton] at hm
      rcases hm with hm | rfl
      · exact (hp m hm).1
      · decide)
    refine ⟨hok, h64, rfl, plan_take h q l E64 hh.1, k1, by rw [planF_eq h q l hne]; simp; omega, k2, fun h' hh' => ⟨q, ?_⟩⟩
    have hj : jcode ⟨(plan0 h q l).foldl wr E64, []⟩ h' h = 0 := by
      have i1 : inn h' 0 3 = true := by simp [inn]; omega
      have i2 : inn h 0 3 = true := by simp [inn]; omega
      simp [jcode, hok, i1, i2]
    have hr : rdL ((plan0 h q l).foldl wr E64) [] h' (39 + 6 * h) = sealF 7 [0, q] := by
      have := plan_head h q l E64 hh (by decide)
      simpa [rdL, rdN] using this
    have ho := open_seal (k := 7) (l := [0, q]) (by decide) (by simp [intsOK, isNum, inn]; omega)
    have hne' : sealF 7 [0, q] ≠ [] := by simp [sealF]
    simp [jAns, hj, waitF, hr, ho, hne', updsR]
end Go.Proofs.Ytccoeoppjcegnaa

namespace Go.Proofs.Ytccoeoppjcegnaa
open Go
set_option maxRecDepth 100000
set_option linter.unusedSimpArgs false
set_option linter.unusedVariables false
/-- Of moves and of the first writes that are not sure, some first moves are done. -/
theorem moves_cut (h : Int) (ss0 : List Tx) : ∀ (l : List Move), l.length ≤ 300 →
    (∀ x ∈ (l.foldl (mvT h) (⟨ss0, []⟩, [])).1.ps, x.host = h) ∧ (l.foldl (mvT h) (⟨ss0, []⟩, [])).1.ps.length ≤ l.length ∧
    ∀ j, ∃ k, k ≤ l.length ∧ ((l.foldl (mvT h) (⟨ss0, []⟩, [])).1.ps.take j).foldl landW (l.foldl (mvT h) (⟨ss0, []⟩, [])).1.ss = (l.take k).foldl wr ss0 := by
  intro l hl
  obtain ⟨i1, i2, i3⟩ := moves_flat h l ⟨ss0, []⟩ [] (by simp) (by simp; omega)
  refine ⟨i1, by simpa using i2, ?_⟩
  clear i1 i2 i3
  generalize hn : l.length = n
  rw [hn] at hl
  induction n generalizing l with
  | zero =>
    intro j
    obtain rfl : l = [] := List.length_eq_zero_iff.1 hn
    exact ⟨0, by simp, by simp⟩
  | succ n ih =>
    obtain ⟨l, m, rfl⟩ : ∃ L b, l = L ++ [b] := by
      rcases List.eq_nil_or_concat l with rfl | ⟨L, b, h⟩
      · simp at hn
      · exact ⟨L, b, by simpa using h⟩
    have hn' : l.length = n := by simpa using hn
    subst hn'
    have ih := ih l (by omega) rfl
    have hl' : l.length ≤ 300 := by omega
    obtain ⟨i1, i2, i3⟩ := moves_flat h l ⟨ss0, []⟩ [] (by simp) (by simp; omega)
    intro j
    rw [List.foldl_append]
    simp only [List.length_nil, Nat.zero_add] at i2
    generalize l.foldl (mvT h) (⟨ss0, []⟩, []) = r at *
    obtain ⟨⟨ss, ps⟩, tl⟩ := r
    simp only at i1 i2 i3 ih ⊢
    simp only [List.foldl_cons, List.foldl_nil]
    by_cases hm : m.kind = 2
    · obtain ⟨q1, q2⟩ := landL_every h ps 400 ss i1 (by omega)
      refine ⟨l.length, by omega, ?_⟩
      simp only [mvT, hm, if_true, settleD, q1, q2]
      simp [i3]
    · simp only [mvT, hm, if_false]
      by_cases hj : j ≤ ps.length
      · obtain ⟨k, hk, e⟩ := ih j
        refine ⟨k, by omega, ?_⟩
        rw [List.take_append_of_le_length hj, List.take_append_of_le_length hk]
        exact e
      · refine ⟨l.length + 1, by omega, ?_⟩
        rw [List.take_of_length_le (by simp; omega), List.take_of_length_le (by simp), List.foldl_append, List.foldl_append, i3]
        simp [landW, wr, hm]
/-- What is left of a host that is lost. -/
theorem landL_lost (h : Int) : ∀ (ps : List Io) (k : Int) (ss : List Tx), (∀ x ∈ ps, x.host = h) → 0 ≤ k →
    (landL h true ps k ss).1 = [] ∧ (landL h true ps k ss).2.2 = (ps.take k.toNat).foldl landW ss := by
  intro ps
  induction ps with
  | nil => intro k ss _ _; exact ⟨rfl, by simp [landL]⟩
  | cons x ps ih =>
    intro k ss hx hk
    have h1 : x.host = h := hx x (by simp)
    have g : goes h k true x = true := by simp [goes, h1]
    unfold landL
    rw [if_pos g]
    by_cases h2 : 0 < k
    · obtain ⟨i1, i2⟩ := ih (kOf h k x) (sOf h k ss x) (fun y hy => hx y (by simp [hy])) (by simp [kOf, h1, h2]; omega)
      refine ⟨i1, ?_⟩
      rw [i2]
      obtain ⟨n, hn⟩ : ∃ n : Nat, k.toNat = n + 1 := ⟨k.toNat - 1, by omega⟩
      have : (kOf h k x).toNat = n := by simp [kOf, h1, h2]; omega
      rw [this, hn, List.take_succ_cons]
      simp [sOf, h1, h2, landW]
    · have hk0 : k = 0 := by omega
      subst hk0
      obtain ⟨i1, i2⟩ := ih (kOf h 0 x) (sOf h 0 ss x) (fun y hy => hx y (by simp [hy])) (by simp [kOf])
      refine ⟨i1, ?_⟩
      rw [i2]
      simp [kOf, sOf]
/-- A disk behind some of a plan's moves and a crash. -/
theorem crash (h : Int) (ss0 : List Tx) (l : List Move) (hl : l.length ≤ 300) (keep : Int) (hk : 0 ≤ keep) : ∃ k, k ≤ l.length ∧ settleD (l.foldl (mvT h) (⟨ss0, []⟩, [])).1 h keep true = ⟨(l.take k).foldl wr ss0, []⟩ := by
  obtain ⟨i1, i2, i3⟩ := moves_cut h ss0 l hl
  generalize l.foldl (mvT h) (⟨ss0, []⟩, []) = r at *
  obtain ⟨q1, q2⟩ := landL_lost h r.1.ps keep r.1.ss i1 hk
  obtain ⟨k, hk, e⟩ := i3 keep.toNat
  exact ⟨k, hk, by simp only [settleD, q1, q2, e]⟩
/-! Sectors behind updates. -/
/-- What stands at a place behind updates. -/
def lastU (p : Nat) : List Update → Option Tx
  | [] => none
  | u :: l => match lastU p l with
    | some t => some t
    | none => if u.at_.toNat = p then some u.data else none
theorem setU_get (p : Nat) : ∀ (l : List Update) (ss : List Tx), p < ss.length → (l.foldl setU ss)[p]? = some ((lastU p l).getD (ss.getD p [])) := by
  intro l
  induction l with
  | nil => intro ss hp; simp [lastU, hp]
  | cons u l ih =>
    intro ss hp
    simp only [List.foldl_cons]
    rw [ih _ (by simpa [setU] using hp)]
    simp only [lastU]
    cases hq : lastU p l with
    | some t => simp
    | none =>
      by_cases c : u.at_.toNat = p
      · subst c; simp [setU, hp]
      · simp [setU, c, List.getElem?_set]
theorem lastU_take (p : Nat) : ∀ (l : List Update) (j : Nat), lastU p l = none → lastU p (l.take j) = none := by
  intro l
  induction l with
  | nil => intro j h; simpa using h
  | cons u l ih =>
    intro j h
    cases j with
    | zero => rfl
    | succ j =>
      simp only [lastU] at h
      cases hq : lastU p l with
      | some t => rw [hq] at h; cases h
      | none =>
        rw [hq] at h
        simp only [List.take_succ_cons, lastU]
        rw [ih j hq]
        exact h
theorem setU_len : ∀ (l : List Update) (ss : List Tx), (l.foldl setU ss).length = ss.length := by
  intro l
  induction l with
  | nil => intro ss; rfl
  | cons u l ih => intro ss; simp only [List.foldl_cons, ih]; simp [setU]
/-- Some of the updates, then all: the same as all. -/
theorem setU_again (l : List Update) (j : Nat) (ss : List Tx) : l.foldl setU ((l.take j).foldl setU ss) = l.foldl setU ss := by
  apply List.ext_getElem?
  intro p
  by_cases hp : p < ss.length
  · rw [setU_get p l _ (by rw [setU_len]; exact hp), setU_get p l ss hp]
    cases hq : lastU p l with
    | some t => rfl
    | none =>
      have := setU_get p (l.take j) ss hp
      rw [lastU_take p l j hq] at this
      simp only [Option.getD_none] at this ⊢
      rw [List.getD_eq_getElem?_getD, this]
      rfl
  · rw [List.getElem?_eq_none (by simp only [setU_len]; omega), List.getElem?_eq_none (by rw [setU_len]; omega)]
end Go.Proofs.Ytccoeoppjcegnaa

namespace Go.Proofs.Ytccoeoppjcegnaa
open Go
set_option maxRecDepth 100000
set_option linter.unusedSimpArgs false
set_option linter.unusedVariables false
/-- What the last write at a place is. -/
def lastM (p : Nat) : List Move → Option Tx
  | [] => none
  | m :: l => match lastM p l with
    | some t => some t
    | none => if m.kind ≠ 2 ∧ m.at_.toNat = p then some m.data else none
theorem lastM_app (p : Nat) : ∀ a b : List Move, lastM p (a ++ b) = match lastM p b with
    | some t => some t
    | none => lastM p a := by
  intro a b
  induction a with
  | nil => simp only [List.nil_append, lastM]; cases lastM p b <;> rfl
  | cons m a ih =>
    simp only [List.cons_append, lastM]
    rw [ih]
    cases h : lastM p b with
    | some t => rfl
    | none => rfl
theorem wr_get (p : Nat) : ∀ (l : List Move) (ss : List Tx), p < ss.length → (l.foldl wr ss)[p]? = some ((lastM p l).getD (ss.getD p [])) := by
  intro l
  induction l with
  | nil => intro ss hp; simp [lastM, hp]
  | cons m l ih =>
    intro ss hp
    have hl : (wr ss m).length = ss.length := by unfold wr; split <;> simp
    simp only [List.foldl_cons]
    rw [ih _ (by omega)]
    simp only [lastM]
    cases hq : lastM p l with
    | some t => simp
    | none =>
      unfold wr
      by_cases hk : m.kind = 2
      · simp [hk]
      · by_cases c : m.at_.toNat = p
        · subst c; simp [hk, hp]
        · simp [hk, c, List.getElem?_set]
theorem wr_getD (p : Nat) (l : List Move) (ss : List Tx) (hp : p < ss.length) : (l.foldl wr ss).getD p [] = (lastM p l).getD (ss.getD p []) := by
  rw [List.getD_eq_getElem?_getD, wr_get p l ss hp, Option.getD_some]
theorem lastM_none (p : Nat) : ∀ l : List Move, (∀ m ∈ l, m.kind = 2 ∨ m.at_.toNat ≠ p) → lastM p l = none := by
  intro l
  induction l with
  | nil => intro _; rfl
  | cons m l ih =>
    intro h
    simp only [lastM]
    rw [ih fun x hx => h x (by simp [hx])]
    have := h m (by simp)
    by_cases hk : m.kind = 2
    · simp [hk]
    · simp [hk, this.resolve_left hk]
theorem lastM_jm (h : Int) (hh : 0 ≤ h) : ∀ (l : List Update) (i j : Nat) (u : Update), l[j]? = some u → lastM (39 + 6 * h + 1 + ((i + j : Nat) : Int)).toNat (jmF h l i) = some (updT u) := by
  intro l
  induction l with
  | nil => intro i j u hu; simp at hu
  | cons x l ih =>
    intro i j u hu
    simp only [jmF, lastM]
    cases j with
    | zero =>
      simp at hu; subst hu
      have : lastM (39 + 6 * h + 1 + ((i + 0 : Nat) : Int)).toNat (jmF h l (i + 1)) = none := by
        have far : ∀ (l : List Update) (k : Nat), i < k → ∀ m ∈ jmF h l k, m.kind = 2 ∨ m.at_.toNat ≠ (39 + 6 * h + 1 + ((i + 0 : Nat) : Int)).toNat := by
          intro l
          induction l with
          | nil => intro k _ m hm; cases hm
          | cons y l ih2 =>
            intro k hk m hm
            simp only [jmF, List.mem_cons] at hm
            rcases hm with rfl | hm
            · right; simp only; omega
            · exact ih2 (k + 1) (by omega) m hm
        exact lastM_none _ _ (far l (i + 1) (by omega))
      rw [this]
      simp
    | succ j =>
      have := ih (i + 1) j u (by simpa using hu)
      rw [show i + 1 + j = i + (j + 1) by omega] at this
      rw [this]
theorem wr_flush (s : List Tx) : List.foldl wr s ([⟨2, 0, []⟩] : List Move) = s := rfl
theorem E64_len : E64.length = 64 := by decide
/-- The moves ahead of the head. -/
def pA (h : Int) (l : List Update) : List Move := jmF h l 0 ++ [⟨2, 0, []⟩]
def pH (h q n : Int) : List Move := [⟨1, 39 + 6 * h, sealF 7 [n, q]⟩]
theorem plan_parts (h q : Int) (l : List Update) (hne : l ≠ []) : planF h q l = pA h l ++ (pH h q l.length ++ ([⟨2, 0, []⟩] ++ (l.map mvU ++ ([⟨2, 0, []⟩] ++ (pH h q 0 ++ [⟨2, 0, []⟩]))))) := by
  simp [planF, hne, applyF, pA, pH]
theorem pA_far (h : Int) (l : List Update) (hh : 0 ≤ h) : ∀ m ∈ pA h l, m.kind = 2 ∨ 39 + 6 * h + 1 ≤ m.at_ := by
  intro m hm
  unfold pA at hm
  simp only [List.mem_append, List.mem_singleton] at hm
  rcases hm with hm | rfl
  · right
    have : ∀ (l : List Update) (k : Nat), ∀ m ∈ jmF h l k, 39 + 6 * h + 1 ≤ m.at_ := by
      intro l
      induction l with
      | nil => intro k m hm; cases hm
      | cons u l ih =>
        intro k m hm
        simp only [jmF, List.mem_cons] at hm
        rcases hm with rfl | hm
        · simp only; omega
        · exact ih _ m hm
    exact this l 0 m hm
  · exact .inl rfl
/-- How a slot and the sectors stand behind some of a plan's moves. -/
inductive Stand (h q : Int) (l : List Update) (ss : List Tx) : Prop
  | before (a : ss.getD (39 + 6 * h).toNat [] = []) (b : ss.take 39 = E64.take 39)
  | midst (j : Nat) (a : ss.getD (39 + 6 * h).toNat [] = sealF 7 [(l.length : Int), q]) (b : ss.take 39 = ((l.take j).foldl setU E64).take 39) (c : ∀ (i : Nat) (u : Update), l[i]? = some u → ss.getD (39 + 6 * h + 1 + (i : Int)).toNat [] = updT u)
  | behind (a : ss.getD (39 + 6 * h).toNat [] = sealF 7 [0, q]) (b : ss.take 39 = (l.foldl setU E64).take 39)
theorem upd_far (p : Nat) (hp : 39 ≤ p) (l : List Update) (hu : ∀ x ∈ l, 9 ≤ x.at_ ∧ x.at_ ≤ 28) : lastM p (l.map mvU) = none := by
  refine lastM_none _ _ fun m hm => ?_
  obtain ⟨u, hu', rfl⟩ := List.mem_map.1 hm
  have := hu u hu'
  right; simp only [mvU]; omega
theorem stand (h q : Int) (l : List Update) (hh : 0 ≤ h ∧ h ≤ 3) (hl : l.length ≤ 4) (hne : l ≠ []) (hu : ∀ x ∈ l, 9 ≤ x.at_ ∧ x.at_ ≤ 28 ∧ x.data.length ≤ 8) (k : Nat) : Stand h q l (((planF h q l).take k).foldl wr E64) := by
  have hu' : ∀ x ∈ l, 9 ≤ x.at_ ∧ x.at_ ≤ 28 := fun x hx => ⟨(hu x hx).1, (hu x hx).2.1⟩
  have hB : (39 + 6 * h).toNat < E64.length := by rw [E64_len]; omega
  have hE : E64.getD (39 + 6 * h).toNat [] = [] := E64_get _
  have faraway : ∀ m ∈ pA h l, m.kind = 2 ∨ m.at_.toNat ≠ (39 + 6 * h).toNat := fun m hm => (pA_far h l hh.1 m hm).imp id fun h => by omega
  have n0 : lastM (39 + 6 * h).toNat (pA h l) = none := lastM_none _ _ faraway
  have far39 : ∀ m ∈ pA h l, m.kind = 2 ∨ 39 ≤ m.at_ := fun m hm => (pA_far h l hh.1 m hm).imp id fun h => by omega
  rw [plan_parts h q l hne]
  by_cases k1 : k ≤ (pA h l).length
  · rw [List.take_append_of_le_length k1]
    refine .before ?_ ?_
    · rw [wr_getD _ _ _ hB, lastM_none _ _ (fun m hm => faraway m (List.mem_of_mem_take hm)), hE]; rfl
    · exact wr_far _ _ fun m hm => far39 m (List.mem_of_mem_take hm)
  · obtain ⟨k, rfl⟩ : ∃ k', k = (pA h l).length + 1 + k' := ⟨k - (pA h l).length - 1, by omega⟩
    rw [show (pA h l).length + 1 + k = (pA h l).length + (1 + k) by omega, List.take_length_add_append, show 1 + k = (pH h q l.length).length + k from rfl, List.take_length_add_append]
    -- what stands in the slot behind the head
    have slot : ∀ r : List Move, (∀ i : Nat, i < l.length → lastM (39 + 6 * h + 1 + (i : Int)).toNat r = none) → ∀ (i : Nat) (u : Update), l[i]? = some u → ((pA h l ++ (pH h q l.length ++ r)).foldl wr E64).getD (39 + 6 * h + 1 + (i : Int)).toNat [] = updT u := by
      intro r hr i u hi
      have hil : i < l.length := (List.getElem?_eq_some_iff.1 hi).1
      have j1 := lastM_jm h hh.1 l 0 i u hi
      rw [Nat.zero_add] at j1
      have j2 : lastM (39 + 6 * h + 1 + (i : Int)).toNat (pH h q l.length) = none := lastM_none _ _ (by
        intro m hm
        simp only [pH, List.mem_singleton] at hm
        subst hm; right; simp only; omega)
      have j3 : lastM (39 + 6 * h + 1 + (i : Int)).toNat ([⟨2, 0, []⟩] : List Move) = none := lastM_none _ _ (by
        intro m hm
        simp only [List.mem_singleton] at hm
        subst hm; exact .inl rfl)
      rw [wr_getD _ _ _ (by rw [E64_len]; omega), lastM_app, lastM_app, hr i hil, j2]
      simp only
      unfold pA
      rw [lastM_app, j3, j1]
      rfl
    have head : ∀ (n : Int) (r : List Move), lastM (39 + 6 * h).toNat r = none → ∀ a : List Move, ((a ++ (pH h q n ++ r)).foldl wr E64).getD (39 + 6 * h).toNat [] = sealF 7 [n, q] := by
      intro n r hr a
      rw [wr_getD _ _ _ hB, lastM_app, lastM_app, hr]
      simp [pH, lastM]
    have low : ∀ (a r : List Move) (n : Int), (∀ m ∈ a, m.kind = 2 ∨ 39 ≤ m.at_) → ((a ++ (pH h q n ++ r)).foldl wr E64).take 39 = (r.foldl wr ((a ++ pH h q n).foldl wr E64)).take 39 := by
      intro a r n _
      rw [← List.append_assoc, List.foldl_append]
    by_cases k2 : k ≤ 1 + l.length
    · -- up to the updates
      have e0 : ([⟨2, 0, []⟩] ++ (l.map mvU ++ ([⟨2, 0, []⟩] ++ (pH h q 0 ++ [⟨2, 0, []⟩]))) : List Move).take k = ([⟨2, 0, []⟩] ++ l.map mvU : List Move).take k := by
        rw [← List.append_assoc, List.take_append_of_le_length (by simp; omega)]
      rw [e0]
      refine .midst (k - 1) ?_ ?_ ?_
      · refine head _ _ (lastM_none _ _ fun m hm => ?_) _
        have hm := List.mem_of_mem_take hm
        simp only [List.mem_append, List.mem_singleton, List.mem_map] at hm
        rcases hm with rfl | ⟨u, h1, rfl⟩
        · exact .inl rfl
        · have := hu' u h1; right; simp only [mvU]; omega
      · rw [low _ _ _ far39]
        cases k with
        | zero =>
          simp only [List.take_zero, List.foldl_nil, Nat.zero_sub]
          refine wr_far _ _ fun m hm => ?_
          simp only [List.mem_append, pH, List.mem_singleton] at hm
          rcases hm with hm | rfl
          · exact far39 m hm
          · right; simp only; omega
        | succ k =>
          simp only [List.singleton_append, List.take_succ_cons, List.foldl_cons, Nat.add_sub_cancel]
          rw [← List.map_take, wr_upd]
          refine setU_take _ _ _ ?_
          rw [show ∀ s : List Tx, wr s ⟨2, 0, []⟩ = s from fun s => rfl]
          refine wr_far _ _ fun m hm => ?_
          simp only [List.mem_append, pH, List.mem_singleton] at hm
          rcases hm with hm | rfl
          · exact far39 m hm
          · right; simp only; omega
      · refine slot _ fun i hi => ?_
        refine lastM_none _ _ fun m hm => ?_
        have hm := List.mem_of_mem_take hm
        simp only [List.mem_append, List.mem_singleton, List.mem_map] at hm
        rcases hm with rfl | ⟨u, h1, rfl⟩
        · exact .inl rfl
        · have := hu' u h1; right; simp only [mvU]; omega
    · obtain ⟨k, rfl⟩ : ∃ k', k = 1 + l.length + 1 + k' := ⟨k - l.length - 2, by omega⟩
      have e1 : ([⟨2, 0, []⟩] ++ (l.map mvU ++ ([⟨2, 0, []⟩] ++ (pH h q 0 ++ [⟨2, 0, []⟩]))) : List Move).take (1 + l.length + 1 + k) = [⟨2, 0, []⟩] ++ (l.map mvU ++ ([⟨2, 0, []⟩] ++ (pH h q 0 ++ [⟨2, 0, []⟩] : List Move).take k)) := by
        rw [show 1 + l.length + 1 + k = ([⟨2, 0, []⟩] : List Move).length + (l.length + (1 + k)) by simp; omega, List.take_length_add_append]
        rw [show l.length + (1 + k) = (l.map mvU).length + (1 + k) by simp, List.take_length_add_append]
        rw [show 1 + k = ([⟨2, 0, []⟩] : List Move).length + k by simp, List.take_length_add_append]
      rw [e1]
      cases k with
      | zero =>
        simp only [List.take_zero, List.append_nil]
        have no : ∀ p : Nat, 39 ≤ p → lastM p ([⟨2, 0, []⟩] ++ (l.map mvU ++ [⟨2, 0, []⟩]) : List Move) = none := by
          intro p hp
          refine lastM_none _ _ fun m hm => ?_
          simp only [List.mem_append, List.mem_singleton, List.mem_map] at hm
          rcases hm with rfl | ⟨u, h1, rfl⟩ | rfl
          · exact .inl rfl
          · have := hu' u h1; right; simp only [mvU]; omega
          · exact .inl rfl
        refine .midst l.length ?_ ?_ ?_
        · exact head _ _ (no _ (by omega)) _
        · rw [low _ _ _ far39, List.foldl_append, List.foldl_append, wr_upd, List.take_of_length_le (Nat.le_refl _), wr_flush, wr_flush]
          refine setU_take _ _ _ (wr_far _ _ fun m hm => ?_)
          simp only [List.mem_append, pH, List.mem_singleton] at hm
          rcases hm with hm | rfl
          · exact far39 m hm
          · right; simp only; omega
        · exact slot _ fun i hi => no _ (by omega)
      | succ k =>
        refine .behind ?_ ?_
        · have hr : (pH h q 0 ++ [⟨2, 0, []⟩] : List Move).take (k + 1) = pH h q 0 ++ ([⟨2, 0, []⟩] : List Move).take k := by
            rw [show k + 1 = (pH h q 0).length + k by simp [pH]; omega, List.take_length_add_append]
          rw [hr]
          have := head 0 (([⟨2, 0, []⟩] : List Move).take k) (lastM_none _ _ fun m hm => by
            have hm := List.mem_of_mem_take hm
            simp only [List.mem_singleton] at hm
            subst hm; exact .inl rfl) (pA h l ++ (pH h q l.length ++ ([⟨2, 0, []⟩] ++ (l.map mvU ++ [⟨2, 0, []⟩]))))
          simpa only [List.append_assoc] using this
        · rw [low _ _ _ far39, List.foldl_append, List.foldl_append, List.foldl_append, wr_upd]
          rw [wr_flush, wr_flush, wr_far ((pH h q 0 ++ ([⟨2, 0, []⟩] : List Move)).take (k + 1)) _ (fun m hm => by
            have hm := List.mem_of_mem_take hm
            simp only [List.mem_append, pH, List.mem_singleton] at hm
            rcases hm with rfl | rfl
            · right; simp only; omega
            · exact .inl rfl)]
          refine setU_take _ _ _ (wr_far _ _ fun m hm => ?_)
          simp only [List.mem_append, pH, List.mem_singleton] at hm
          rcases hm with hm | rfl
          · exact far39 m hm
          · right; simp only; omega
end Go.Proofs.Ytccoeoppjcegnaa

namespace Go.Proofs.Ytccoeoppjcegnaa
open Go
set_option maxRecDepth 100000
set_option linter.unusedSimpArgs false
set_option linter.unusedVariables false
theorem updF_updT (u : Update) (h : 9 ≤ u.at_ ∧ u.at_ ≤ 28 ∧ u.data.length ≤ 8) : updF (updT u) = some u := by
  have hs : (sealF 8 [u.at_]).length = 8 := by simp [sealF, packF_length]
  have h1 : (updT u).take 8 = sealF 8 [u.at_] := by unfold updT; rw [List.take_append_of_le_length (by omega), List.take_of_length_le (by omega)]
  have h2 : (updT u).drop 8 = u.data := by unfold updT; rw [List.drop_append_of_le_length (by omega), List.drop_of_length_le (by omega), List.nil_append]
  have h3 : openF (sealF 8 [u.at_]) 8 = some [u.at_] := open_seal (by decide) (by simp [intsOK, isNum, inn]; omega)
  have h4 : updOK u = true := by simp [updOK, inn]; omega
  unfold updF
  rw [if_neg (by unfold updT; simp; omega), h1, h2, h3]
  simp only
  rw [if_pos h4]
theorem updsR_all (d : Disk) (h b : Int) (l : List Update) (hr : ∀ (i : Nat) (u : Update), l[i]? = some u → updF (rdL d.ss d.ps h (b + 1 + (i : Int))) = some u) : ∀ (k i : Nat) (a : List Update), i + k = l.length → updsR d h b k i a = (true, a ++ l.drop i) := by
  intro k
  induction k with
  | zero => intro i a hi; unfold updsR; rw [List.drop_of_length_le (by omega)]; simp
  | succ k ih =>
    intro i a hi
    have hlt : i < l.length := by omega
    unfold updsR
    rw [hr i l[i] (List.getElem?_eq_getElem hlt)]
    simp only
    rw [ih (i + 1) _ (by omega), List.drop_eq_getElem_cons hlt]
    simp
theorem rdL_sure (ss : List Tx) (h a : Int) : rdL ss [] h a = ss.getD a.toNat [] := rfl
structure Read1 (h : Int) (ss : List Tx) (l : List Update) (q : Int) : Prop where
  ans : ∀ h' : Int, 0 ≤ h' ∧ h' ≤ 3 → jAns ⟨ss, []⟩ h' h = (l, q, 0)
theorem jAns_of_wait {h h' q : Int} {ss : List Tx} {l : List Update} (hd : diskOK ⟨ss, []⟩ = true) (hh : 0 ≤ h ∧ h ≤ 3) (hh' : 0 ≤ h' ∧ h' ≤ 3) (hw : waitF ⟨ss, []⟩ h' h = some (l, q)) : jAns ⟨ss, []⟩ h' h = (l, q, 0) := by
  have hj : jcode ⟨ss, []⟩ h' h = 0 := by
    have i1 : inn h' 0 3 = true := by simp [inn]; omega
    have i2 : inn h 0 3 = true := by simp [inn]; omega
    simp [jcode, hd, i1, i2]
  unfold jAns
  rw [if_neg (by simp [hj]), hw]
theorem seal7_ne (a b : Int) : sealF 7 [a, b] ≠ [] := by simp [sealF]
theorem wait_head0 {h h' q : Int} {ss : List Tx} (hq : 0 ≤ q ∧ q ≤ 2147483647) (ha : ss.getD (39 + 6 * h).toNat [] = sealF 7 [0, q]) : waitF ⟨ss, []⟩ h' h = some ([], q) := by
  have ho := open_seal (k := 7) (l := [0, q]) (by decide) (by simp [intsOK, isNum, inn]; omega)
  unfold waitF
  rw [rdL_sure, ha, if_neg (seal7_ne _ _), ho]
  simp [updsR]
theorem wait_none {h h' : Int} {ss : List Tx} (ha : ss.getD (39 + 6 * h).toNat [] = []) : waitF ⟨ss, []⟩ h' h = some ([], 0) := by
  unfold waitF
  rw [rdL_sure, ha, if_pos rfl]
theorem wait_all {h h' q : Int} {ss : List Tx} {l : List Update} (hq : 0 ≤ q ∧ q ≤ 2147483647) (hl : l.length ≤ 4) (hu : ∀ x ∈ l, 9 ≤ x.at_ ∧ x.at_ ≤ 28 ∧ x.data.length ≤ 8)
    (ha : ss.getD (39 + 6 * h).toNat [] = sealF 7 [(l.length : Int), q]) (hc : ∀ (i : Nat) (u : Update), l[i]? = some u → ss.getD (39 + 6 * h + 1 + (i : Int)).toNat [] = updT u) : waitF ⟨ss, []⟩ h' h = some (l, q) := by
  have ho := open_seal (k := 7) (l := [(l.length : Int), q]) (by decide) (by simp [intsOK, isNum, inn]; omega)
  have hr := updsR_all ⟨ss, []⟩ h' (39 + 6 * h) l (fun i u hi => by
    rw [rdL_sure, hc i u hi]
    exact updF_updT u (hu u (List.mem_of_getElem? hi))) l.length 0 [] (by omega)
  unfold waitF
  rw [rdL_sure, ha, if_neg (seal7_ne _ _), ho]
  simp only
  rw [if_neg (by omega), Int.toNat_natCast, hr]
  simp
/-- Moves of a replay. -/
theorem replay_eq (h q : Int) (l : List Update) : applyF h q l = (l.map mvU ++ ([⟨2, 0, []⟩] ++ pH h q 0)) ++ ([⟨2, 0, []⟩] : List Move) := by simp [applyF, pH]
theorem landL_small (h : Int) (lose : Bool) : ∀ (ps : List Io) (k : Int) (ss : List Tx), (∀ x ∈ ps, x.data.length ≤ 80) → (∀ s ∈ ss, s.length ≤ 80) → ∀ s ∈ (landL h lose ps k ss).2.2, s.length ≤ 80 := by
  intro ps
  induction ps with
  | nil => intro k ss _ h; exact h
  | cons x ps ih =>
    intro k ss hx hs
    unfold landL
    split
    · refine ih _ _ (fun y hy => hx y (by simp [hy])) ?_
      intro s hm
      unfold sOf at hm
      split at hm
      · rcases List.mem_or_eq_of_mem_set hm with hm | rfl
        · exact hs s hm
        · exact hx x (by simp)
      · exact hs s hm
    · exact ih _ _ (fun y hy => hx y (by simp [hy])) hs
theorem diskOK_iff {d : Disk} : diskOK d = true ↔ d.ss.length = 64 ∧ (∀ s ∈ d.ss, s.length ≤ 80) ∧ d.ps.length ≤ 200 ∧ ∀ x ∈ d.ps, ioOK x = true := by
  simp [diskOK, and_assoc]
theorem settle_ok {d : Disk} (hd : diskOK d = true) (h k : Int) (lose : Bool) : diskOK (settleD d h k lose) = true := by
  obtain ⟨a1, a2, a3, a4⟩ := diskOK_iff.1 hd
  have hl := landL_len h lose d.ps k d.ss
  refine diskOK_iff.2 ⟨by simp only [settleD]; rw [hl.2, a1], landL_small h lose d.ps k d.ss (fun x hx => ?_) a2, by simp only [settleD]; omega, landL_all h lose (fun x => ioOK x = true) d.ps k d.ss a4⟩
  have := a4 x hx
  simp [ioOK] at this
  exact this.2
theorem moves_ok (h : Int) (hh : inn h 0 3 = true) : ∀ (l : List Move) (d : Disk) (tl : List Io), diskOK d = true → d.ps.length + l.length ≤ 200 → (∀ m ∈ l, moveOK m = true) → diskOK (l.foldl (mvT h) (d, tl)).1 = true := by
  intro l
  induction l with
  | nil => intro d tl hd _ _; exact hd
  | cons m l ih =>
    intro d tl hd hl hm
    simp only [List.length_cons] at hl
    simp only [List.foldl_cons]
    have hm1 := hm m (by simp)
    by_cases hk : m.kind = 2
    · have e : mvT h (d, tl) m = (settleD d h 400 false, (mvT h (d, tl) m).2) := by
        unfold mvT
        rw [if_pos hk]
      rw [e]
      have := (landL_len h false d.ps 400 d.ss).1
      exact ih _ _ (settle_ok hd h 400 false) (by simp only [settleD]; omega) fun x hx => hm x (by simp [hx])
    · have e : mvT h (d, tl) m = (⟨d.ss, d.ps ++ [⟨h, m.at_, m.data⟩]⟩, (mvT h (d, tl) m).2) := by
        unfold mvT
        rw [if_neg hk]
      rw [e]
      obtain ⟨a1, a2, a3, a4⟩ := diskOK_iff.1 hd
      refine ih _ _ (diskOK_iff.2 ⟨a1, a2, by simp; omega, fun x hx => ?_⟩) (by simp; omega) fun x hx => hm x (by simp [hx])
      simp only [List.mem_append, List.mem_singleton] at hx
      rcases hx with hx | rfl
      · exact a4 x hx
      · simp [moveOK, hk] at hm1
        simp [ioOK, hh, hm1]
structure After (h : Int) (l : List Update) (ss z : List Tx) (rp : List Move) : Prop where
  len : rp.length ≤ 10
  oks : ∀ m ∈ rp, moveOK m = true
  done : ∀ o : Int, (rp.foldl (mvT o) (⟨ss, []⟩, [])).1 = ⟨z, []⟩
  ok : diskOK ⟨z, []⟩ = true
  left : ∀ h' : Int, 0 ≤ h' ∧ h' ≤ 3 → ∃ q' : Int, jAns ⟨z, []⟩ h' h = ([], q', 0)
  secs : z.take 39 = E64.take 39 ∨ z.take 39 = (l.foldl setU E64).take 39
theorem ok_of {ss : List Tx} (h1 : ss.length = 64) (h2 : ∀ s ∈ ss, s.length ≤ 80) : diskOK ⟨ss, []⟩ = true := by
  simp only [diskOK, h1]
  simp
  exact h2
/-- Behind a crash wherever, and a replay: all or nothing. -/
theorem atomic (h q : Int) (l : List Update) (hh : 0 ≤ h ∧ h ≤ 3) (hq : 0 ≤ q ∧ q ≤ 2147483647) (hl : l.length ≤ 4) (hu : ∀ x ∈ l, 9 ≤ x.at_ ∧ x.at_ ≤ 28 ∧ x.data.length ≤ 8) (k : Nat) :
    ∃ rp z, diskOK ⟨((planF h q l).take k).foldl wr E64, []⟩ = true ∧ (∀ o : Int, 0 ≤ o ∧ o ≤ 3 → rAns ⟨((planF h q l).take k).foldl wr E64, []⟩ o h = (rp, 0)) ∧ After h l (((planF h q l).take k).foldl wr E64) z rp := by
  have ok64 : diskOK ⟨E64, []⟩ = true := d64_ok
  by_cases hne : l = []
  · subst hne
    refine ⟨[], E64, by simpa [planF] using ok64, fun o ho => ?_, ⟨by simp, by simp, fun o => by simp [planF], ok64, fun h' hh' => ⟨0, jAns_of_wait ok64 hh hh' (wait_none (E64_get _))⟩, .inl rfl⟩⟩
    have : jAns ⟨E64, []⟩ o h = ([], 0, 0) := jAns_of_wait ok64 hh ho (wait_none (E64_get _))
    simp [planF, rAns, this]
  have st := stand h q l hh hl hne hu k
  have hp := plan0_ok h q l hh hl hu
  have hall : ∀ m ∈ (planF h q l).take k, m.data.length ≤ 80 := by
    intro m hm
    have hm := List.mem_of_mem_take hm
    rw [planF_eq h q l hne] at hm
    simp only [List.mem_append, List.mem_singleton] at hm
    rcases hm with hm | rfl
    · exact (hp m hm).2
    · decide
  have h64 : (((planF h q l).take k).foldl wr E64).length = 64 := by rw [wr_length]; decide
  have hsm := wr_small _ E64 hall (by intro s hs; simp [E64] at hs; simp [hs])
  generalize ((planF h q l).take k).foldl wr E64 = ss at *
  have hok := ok_of h64 hsm
  -- nothing waits
  have quiet : (∃ q' : Int, ∀ h' : Int, waitF ⟨ss, []⟩ h' h = some ([], q')) → (ss.take 39 = E64.take 39 ∨ ss.take 39 = (l.foldl setU E64).take 39) →
      ∃ rp z, diskOK ⟨ss, []⟩ = true ∧ (∀ o : Int, 0 ≤ o ∧ o ≤ 3 → rAns ⟨ss, []⟩ o h = (rp, 0)) ∧ After h l ss z rp := by
    rintro ⟨q', hw⟩ hs
    refine ⟨[], ss, hok, fun o ho => ?_, ⟨by simp, by simp, fun o => rfl, hok, fun h' hh' => ⟨q', jAns_of_wait hok hh hh' (hw h')⟩, hs⟩⟩
    have := jAns_of_wait hok hh ho (hw o)
    simp [rAns, this]
  cases st with
  | before a b => exact quiet ⟨0, fun h' => wait_none a⟩ (.inl b)
  | behind a b => exact quiet ⟨q, fun h' => wait_head0 hq a⟩ (.inr b)
  | midst j a b c =>
    have hw : ∀ h' : Int, waitF ⟨ss, []⟩ h' h = some (l, q) := fun h' => wait_all hq hl hu a c
    have s7 : (sealF 7 [0, q]).length = 12 := by simp [sealF, packF_length]
    have hmo : ∀ m ∈ applyF h q l, moveOK m = true ∧ m.data.length ≤ 80 := by
      intro m hm
      have hsub : m ∈ plan0 h q l ++ ([⟨2, 0, []⟩] : List Move) := by
        rw [← planF_eq h q l hne]
        simp only [planF, hne, if_false, List.mem_append]
        exact .inr hm
      simp only [List.mem_append, List.mem_singleton] at hsub
      rcases hsub with hm | rfl
      · exact hp m hm
      · exact ⟨by decide, by decide⟩
    have hz : (l.map mvU ++ (([⟨2, 0, []⟩] : List Move) ++ pH h q 0)).foldl wr ss = (l.foldl setU ss).set (39 + 6 * h).toNat (sealF 7 [0, q]) := by
      rw [List.foldl_append, wr_upd, List.foldl_append, wr_flush]
      simp [pH, wr]
    have zlen : ((l.foldl setU ss).set (39 + 6 * h).toNat (sealF 7 [0, q])).length = 64 := by simp [setU_len, h64]
    have zok : diskOK ⟨(l.foldl setU ss).set (39 + 6 * h).toNat (sealF 7 [0, q]), []⟩ = true := by
      refine ok_of zlen ?_
      rw [← hz]
      refine wr_small _ _ (fun m hm => (hmo m ?_).2) hsm
      rw [replay_eq]
      exact List.mem_append_left _ hm
    refine ⟨applyF h q l, (l.foldl setU ss).set (39 + 6 * h).toNat (sealF 7 [0, q]), hok, fun o ho => ?_, ⟨by rw [applyF_length]; omega, fun m hm => (hmo m hm).1, fun o => ?_, zok, fun h' hh' => ⟨q, ?_⟩, .inr ?_⟩⟩
    · have := jAns_of_wait hok hh ho (hw o)
      simp [rAns, this, hne]
    · rw [replay_eq, moves_end o _ ss (by simp [pH]; omega), hz]
    · refine jAns_of_wait zok hh hh' (wait_head0 hq ?_)
      have : (39 + 6 * h).toNat < (l.foldl setU ss).length := by rw [setU_len]; omega
      simp [this]
    · rw [List.take_set_of_le (by omega)]
      have := setU_take l _ _ b
      rw [this, setU_again]
end Go.Proofs.Ytccoeoppjcegnaa

namespace Go.Proofs.Ytccoeoppjcegnaa
open Go
set_option maxRecDepth 100000
set_option maxHeartbeats 4000000
set_option linter.unusedSimpArgs false
set_option linter.unusedVariables false
structure ES where
  d : Disk
  p : Px
  bs : List Bl
def stE (s : ES) : ES :=
  ⟨if (stepP s.p s.bs).2.getD s.p.host.toNat zBl = s.bs.getD s.p.host.toNat zBl then s.d else putD s.d s.p.host (1 + s.p.host) (blT ((stepP s.p s.bs).2.getD s.p.host.toNat zBl)), (stepP s.p s.bs).1, (stepP s.p s.bs).2⟩
def over (p : Px) : Bool := decide (p.phase = 5) || decide (p.phase = 6)
def runE : Nat → ES → ES
  | 0, s => s
  | n + 1, s => if over s.p then s else runE n (stE s)
def mu (p : Px) : Nat := if p.phase = 1 then 30 else if p.phase = 2 then 20 + (5 - p.next).toNat else if p.phase = 3 then 15 else if p.phase = 4 then 5 + (5 - p.next).toNat else 0
structure ESIn (h : Int) (s : ES) : Prop where
  host : s.p.host = h
  h0 : 0 ≤ h
  h3 : h ≤ 3
  len : s.bs.length = 4
  p1 : 1 ≤ s.p.phase
  p6 : s.p.phase ≤ 6
  n0 : 0 ≤ s.p.next
  n5 : s.p.next ≤ 5
  n3 : s.p.phase = 2 ∨ s.p.phase = 4 → s.p.next ≤ 3
  ok : diskOK s.d = true
  room : s.d.ps.length < 200
theorem landL_put (h : Int) : ∀ (ps : List Io) (k : Int) (ss : List Tx) (x : Io), x.host = h → (ps.length : Int) < k → (landL h false (ps ++ [x]) k ss).1.length ≤ ps.length := by
  intro ps
  induction ps with
  | nil =>
    intro k ss x hx hk
    simp only [List.length_nil] at hk
    have : 0 < k := by omega
    simp [landL, goes, hx, this]
  | cons y ps ih =>
    intro k ss x hx hk
    simp only [List.length_cons] at hk
    simp only [List.cons_append]
    unfold landL
    split
    · have hk' : (ps.length : Int) < kOf h k y := by unfold kOf; split <;> omega
      have := ih (kOf h k y) (sOf h k ss y) x hx hk'
      simp only [List.length_cons]; omega
    · have := ih k ss x hx (by omega)
      simp only [List.length_cons]; omega
theorem putD_room (d : Disk) (h a : Int) (t : Tx) (hd : d.ps.length < 200) : (putD d h a t).ps.length ≤ d.ps.length := by
  unfold putD settleD
  exact landL_put h d.ps 201 d.ss ⟨h, a, t⟩ rfl (by omega)
theorem putD_ok {d : Disk} {h a : Int} {t : Tx} (hd : diskOK d = true) (hr : d.ps.length < 200) (hh : inn h 0 3 = true) (ha : inn a 0 63 = true) (ht : t.length ≤ 80) : diskOK (putD d h a t) = true := by
  unfold putD
  refine settle_ok ?_ h 201 false
  obtain ⟨a1, a2, a3, a4⟩ := diskOK_iff.1 hd
  refine diskOK_iff.2 ⟨a1, a2, by simp; omega, fun x hx => ?_⟩
  simp only [List.mem_append, List.mem_singleton] at hx
  rcases hx with hx | rfl
  · exact a4 x hx
  · simp [ioOK, hh, ha, ht]
theorem blT_len (b : Bl) : (blT b).length = 20 := by simp [blT, sealF_length]
theorem finP_in (q : Px) (hn : 0 ≤ q.next ∧ q.next ≤ 5) (hp : q.phase = 2 ∨ q.phase = 4) : (finP q).host = q.host ∧ (finP q).next = q.next ∧ ((finP q).phase = q.phase ∧ q.next ≤ 3 ∨ (q.phase = 4 ∧ (finP q).phase = 5) ∨ (q.phase = 2 ∧ (finP q).phase = 3)) := by
  unfold finP
  split
  · refine ⟨rfl, rfl, .inl ⟨rfl, by omega⟩⟩
  · split
    · exact ⟨rfl, rfl, .inr (.inl ⟨by assumption, rfl⟩)⟩
    · rename_i h
      exact ⟨rfl, rfl, .inr (.inr ⟨by omega, rfl⟩)⟩
theorem stepP_in {h : Int} {s : ES} (g : ESIn h s) (ho : over s.p = false) : (stepP s.p s.bs).1.host = h ∧ (stepP s.p s.bs).2.length = 4 ∧ 1 ≤ (stepP s.p s.bs).1.phase ∧ (stepP s.p s.bs).1.phase ≤ 6 ∧
    0 ≤ (stepP s.p s.bs).1.next ∧ (stepP s.p s.bs).1.next ≤ 5 ∧ ((stepP s.p s.bs).1.phase = 2 ∨ (stepP s.p s.bs).1.phase = 4 → (stepP s.p s.bs).1.next ≤ 3) ∧ mu (stepP s.p s.bs).1 < mu s.p := by
  have g1 := g.host; have g2 := g.h0; have g3 := g.h3; have g4 := g.len; have g5 := g.p1; have g6 := g.p6; have g7 := g.n0; have g8 := g.n5; have g9 := g.n3
  simp [over] at ho
  unfold stepP
  by_cases hw : s.p.phase = 1 ∨ s.p.phase = 3
  · rw [if_pos hw]
    split
    · refine ⟨g1, g4, by simp, by simp, g7, g8, by simp, ?_⟩
      rcases hw with hw | hw <;> simp [mu, hw]
    · unfold writeP
      split
      · rename_i h3
        refine ⟨g1, by simp [g4], by simp, by simp, by simp, by simp, by simp, ?_⟩
        simp [mu, h3]
      · rename_i h3
        have h1 : s.p.phase = 1 := hw.resolve_right h3
        refine ⟨g1, by simp [g4], by simp, by simp, by simp, by simp, by simp, ?_⟩
        simp [mu, h1]
  · rw [if_neg hw]
    have h24 : s.p.phase = 2 ∨ s.p.phase = 4 := by omega
    have n3 := g9 h24
    have hx0 : s.p.next ≤ nx0 s.p ∧ nx0 s.p ≤ s.p.next + 1 := by unfold nx0; split <;> omega
    refine (fun (hx : (readP s.p s.bs).host = h ∧ ((readP s.p s.bs).phase = 6 ∧ 0 ≤ (readP s.p s.bs).next ∧ (readP s.p s.bs).next ≤ 5 ∨ s.p.next < (readP s.p s.bs).next ∧ (readP s.p s.bs).next ≤ 5 ∧ ((readP s.p s.bs).phase = s.p.phase ∧ (readP s.p s.bs).next ≤ 3 ∨ (s.p.phase = 4 ∧ (readP s.p s.bs).phase = 5) ∨ (s.p.phase = 2 ∧ (readP s.p s.bs).phase = 3)))) => ?_) ?_
    · obtain ⟨a1, a2⟩ := hx
      simp only
      generalize readP s.p s.bs = r at *
      rcases a2 with ⟨b1, b2, b3⟩ | ⟨b1, b2, ⟨b3, b4⟩ | ⟨b3, b4⟩ | ⟨b3, b4⟩⟩
      · refine ⟨a1, g4, by omega, by omega, by omega, by omega, by omega, ?_⟩
        rcases h24 with h24 | h24 <;> simp [mu, b1, h24] <;> omega
      · refine ⟨a1, g4, by omega, by omega, by omega, by omega, by omega, ?_⟩
        rcases h24 with h24 | h24 <;> simp [mu, b3, h24] <;> omega
      · refine ⟨a1, g4, by omega, by omega, by omega, by omega, by omega, ?_⟩
        simp [mu, b3, b4]; omega
      · refine ⟨a1, g4, by omega, by omega, by omega, by omega, by omega, ?_⟩
        simp [mu, b3, b4]; omega
    · unfold readP
      by_cases hn : nx0 s.p < 4
      · rw [if_pos hn]
        unfold readB
        split
        · exact ⟨g1, .inl ⟨rfl, by simp only; omega, by simp only; omega⟩⟩
        · have hf := finP_in { s.p with next := if nx0 s.p + 1 = s.p.host then nx0 s.p + 1 + 1 else nx0 s.p + 1, best := if s.p.phase ≠ 4 ∧ s.p.bestBal < (ofV (s.bs.getD (nx0 s.p).toNat zBl) s.p.ver).bal then (ofV (s.bs.getD (nx0 s.p).toNat zBl) s.p.ver).inp else s.p.best, bestBal := if s.p.phase ≠ 4 ∧ s.p.bestBal < (ofV (s.bs.getD (nx0 s.p).toNat zBl) s.p.ver).bal then (ofV (s.bs.getD (nx0 s.p).toNat zBl) s.p.ver).bal else s.p.bestBal } (by simp only; split <;> omega) h24
          obtain ⟨f1, f2, f3⟩ := hf
          refine ⟨f1.trans g1, .inr ⟨?_, ?_, ?_⟩⟩
          · rw [f2]; simp only; split <;> omega
          · rw [f2]; simp only; split <;> omega
          · rw [f2]; exact f3
      · rw [if_neg hn]
        have hf := finP_in { s.p with next := nx0 s.p } (by simp only; omega) h24
        obtain ⟨f1, f2, f3⟩ := hf
        refine ⟨f1.trans g1, .inr ⟨?_, ?_, ?_⟩⟩
        · rw [f2]; simp only; omega
        · rw [f2]; simp only; omega
        · rw [f2]; exact f3
theorem stE_in {h : Int} {s : ES} (g : ESIn h s) (ho : over s.p = false) : ESIn h (stE s) ∧ mu (stE s).p < mu s.p := by
  obtain ⟨a1, a2, a3, a4, a5, a6, a7, a8⟩ := stepP_in g ho
  have hh : inn h 0 3 = true := by have := g.h0; have := g.h3; simp [inn]; omega
  have ha : inn (1 + h) 0 63 = true := by have := g.h0; have := g.h3; simp [inn]; omega
  refine ⟨⟨a1, g.h0, g.h3, a2, a3, a4, a5, a6, a7, ?_, ?_⟩, a8⟩
  · simp only [stE]
    split
    · exact g.ok
    · rw [g.host]; exact putD_ok g.ok g.room hh ha (by rw [blT_len]; omega)
  · simp only [stE]
    split
    · exact g.room
    · have := putD_room s.d s.p.host (1 + s.p.host) (blT ((stepP s.p s.bs).2.getD s.p.host.toNat zBl)) g.room
      have := g.room
      omega
theorem mu_over {p : Px} (h : over p = true) : mu p = 0 := by
  simp [over] at h
  rcases h with h | h <;> simp [mu, h]
theorem runE_over {s : ES} (h : over s.p = true) : ∀ n, runE n s = s := by
  intro n
  cases n with
  | zero => rfl
  | succ n => simp [runE, h]
theorem runE_stable (h : Int) : ∀ (m : Nat) (s : ES), ESIn h s → mu s.p ≤ m → ∀ n, mu s.p ≤ n → runE n s = runE m s := by
  intro m
  induction m with
  | zero =>
    intro s g hm n hn
    cases ho : over s.p with
    | true => rw [runE_over ho, runE_over ho]
    | false => have := (stE_in g ho).2; omega
  | succ m ih =>
    intro s g hm n hn
    cases ho : over s.p with
    | true => rw [runE_over ho, runE_over ho]
    | false =>
      obtain ⟨g', hlt⟩ := stE_in g ho
      cases n with
      | zero => omega
      | succ n =>
        simp only [runE, ho, Bool.false_eq_true, if_false]
        exact ih (stE s) g' (by omega) n (by omega)
theorem runE_step {h : Int} {s : ES} (g : ESIn h s) (ho : over s.p = false) : runE 40 (stE s) = runE 40 s := by
  obtain ⟨g', hlt⟩ := stE_in g ho
  have hb : mu s.p ≤ 30 := by
    unfold mu
    have := g.n0
    split
    · omega
    · split
      · omega
      · split
        · omega
        · split <;> omega
  have e : runE 40 s = runE 39 (stE s) := by simp [runE, ho]
  rw [e]
  exact runE_stable h 39 (stE s) g' (by omega) 40 (by omega)
theorem runE_in {h : Int} : ∀ (n : Nat) (s : ES), ESIn h s → ESIn h (runE n s) := by
  intro n
  induction n with
  | zero => intro s g; exact g
  | succ n ih =>
    intro s g
    unfold runE
    cases ho : over s.p with
    | true => simpa using g
    | false => simpa using ih _ (stE_in g ho).1
theorem runE_ends {h : Int} : ∀ (n : Nat) (s : ES), ESIn h s → mu s.p ≤ n → over (runE n s).p = true := by
  intro n
  induction n with
  | zero =>
    intro s g hm
    cases ho : over s.p with
    | true => exact ho
    | false => have := (stE_in g ho).2; omega
  | succ n ih =>
    intro s g hm
    unfold runE
    cases ho : over s.p with
    | true => simpa using ho
    | false =>
      obtain ⟨g', hlt⟩ := stE_in g ho
      simpa using ih _ g' (by omega)
def rdB (d : Disk) (h : Int) (i : Int) : Bl := (blF (rdL d.ss d.ps h (1 + i))).getD zBl
def blks (d : Disk) (h : Int) : List Bl := [rdB d h 0, rdB d h 1, rdB d h 2, rdB d h 3]
def px0 (h v b w : Int) : Px := ⟨h, v, 1, b, w, 0, 0, 0⟩
def es0 (d : Disk) (h owner gen : Int) : ES := ⟨d, px0 h ((rdLd d h).ver + 1) (nextB h ((rdLd d h).ver + 1) (blks d h)) (1024 * gen + owner), blks d h⟩
def ldE (s : ES) : Leader := ⟨s.p.ver, s.p.value.tmod 1024, s.p.value.tdiv 1024⟩
def endE (d : Disk) (h : Int) (v : Int) (s : ES) : Disk × Leader × Int :=
  if s.p.phase = 6 ∨ ldrOK ⟨v, s.p.value.tmod 1024, s.p.value.tdiv 1024⟩ = false then (s.d, rdLd d h, 19)
  else (putD s.d h 0 (ldrT ⟨v, s.p.value.tmod 1024, s.p.value.tdiv 1024⟩), ⟨v, s.p.value.tmod 1024, s.p.value.tdiv 1024⟩, 0)
def electA (d : Disk) (h owner gen : Int) : Disk × Leader × Int := endE d h ((rdLd d h).ver + 1) (runE 40 (es0 d h owner gen))
theorem blF_ok {t : Tx} {b : Bl} (h : blF t = some b) : blkOK b = true := by
  unfold blF at h
  split at h
  · split at h
    · rename_i hok
      injection h with h; subst h; exact hok
    · cases h
  · cases h
theorem rdB_ok (d : Disk) (h i : Int) : 0 ≤ (rdB d h i).mbal ∧ (rdB d h i).mbal ≤ 1000000 ∧ 0 ≤ (rdB d h i).bal ∧ (rdB d h i).bal ≤ (rdB d h i).mbal := by
  unfold rdB
  cases hb : blF (rdL d.ss d.ps h (1 + i)) with
  | none => simp [zBl]
  | some b =>
    have := blF_ok hb
    simp [blkOK, inn] at this
    simp only [Option.getD_some]
    omega
theorem blks_mbal (d : Disk) (h : Int) : ∀ b ∈ blks d h, 0 ≤ b.mbal ∧ b.mbal ≤ 1000000 := by
  intro b hb
  simp only [blks, List.mem_cons, List.not_mem_nil, or_false] at hb
  rcases hb with rfl | rfl | rfl | rfl
  · exact ⟨(rdB_ok d h 0).1, (rdB_ok d h 0).2.1⟩
  · exact ⟨(rdB_ok d h 1).1, (rdB_ok d h 1).2.1⟩
  · exact ⟨(rdB_ok d h 2).1, (rdB_ok d h 2).2.1⟩
  · exact ⟨(rdB_ok d h 3).1, (rdB_ok d h 3).2.1⟩
theorem rdLd_ver (d : Disk) (h : Int) : 0 ≤ (rdLd d h).ver ∧ (rdLd d h).ver ≤ 1000000 ∧ ldrOK (rdLd d h) = true := by
  unfold rdLd
  cases hx : ldrF (rdL d.ss d.ps h 0) with
  | none => simp [noL, ldrOK, inn]
  | some x =>
    have hok : ldrOK x = true := by
      unfold ldrF at hx
      split at hx
      · split at hx
        · rename_i hok
          injection hx with hx; subst hx; exact hok
        · cases hx
      · cases hx
    have h2 := hok
    simp [ldrOK, inn] at h2
    simp only [Option.getD_some]
    exact ⟨by omega, by omega, hok⟩
theorem es0_in {d : Disk} {h owner gen : Int} (hd : diskOK d = true) (hh : 0 ≤ h ∧ h ≤ 3) (hr : d.ps.length < 200) : ESIn h (es0 d h owner gen) :=
  ⟨rfl, hh.1, hh.2, rfl, by simp [es0, px0], by simp [es0, px0], by simp [es0, px0], by simp [es0, px0], by simp [es0, px0], hd, hr⟩
/-! Values stay numbers. -/
def sm (n : Int) : Prop := 0 ≤ n ∧ n ≤ 2147483647
structure VIn (p : Px) (bs : List Bl) : Prop where
  val : sm p.value
  best : sm p.best
  inp : ∀ b ∈ bs, sm b.inp
theorem getD_sm {bs : List Bl} (h : ∀ b ∈ bs, sm b.inp) (n : Nat) (v : Int) : sm (ofV (bs.getD n zBl) v).inp := by
  have h0 : sm (bs.getD n zBl).inp := by
    by_cases hn : n < bs.length
    · rw [getD_at hn]; exact h _ (List.getElem_mem hn)
    · rw [List.getD_eq_getElem?_getD, List.getElem?_eq_none (by omega)]; unfold sm zBl; simp
  unfold ofV
  split
  · unfold sm; simp
  · exact h0
theorem finP_v {q : Px} {bs : List Bl} (v : VIn q bs) : VIn (finP q) bs := by
  unfold finP
  split
  · exact v
  · split
    · exact ⟨v.val, v.best, v.inp⟩
    · refine ⟨?_, v.best, v.inp⟩
      simp only
      split
      · exact v.best
      · exact v.val
theorem stepP_v {p : Px} {bs : List Bl} (v : VIn p bs) : VIn (stepP p bs).1 (stepP p bs).2 := by
  have ho : sm (ownB p bs).inp := getD_sm v.inp _ _
  unfold stepP
  split
  · split
    · exact ⟨v.val, v.best, v.inp⟩
    · unfold writeP
      split
      · refine ⟨v.val, v.best, fun b hb => ?_⟩
        rcases List.mem_or_eq_of_mem_set hb with hb | rfl
        · exact v.inp b hb
        · exact v.val
      · refine ⟨v.val, ho, fun b hb => ?_⟩
        rcases List.mem_or_eq_of_mem_set hb with hb | rfl
        · exact v.inp b hb
        · exact ho
  · simp only
    unfold readP
    split
    · have hb := getD_sm v.inp (nx0 p).toNat p.ver
      unfold readB
      split
      · exact ⟨v.val, v.best, v.inp⟩
      · refine finP_v ⟨v.val, ?_, v.inp⟩
        simp only
        split
        · exact hb
        · exact v.best
    · exact finP_v ⟨v.val, v.best, v.inp⟩
theorem runE_v : ∀ (n : Nat) (s : ES), VIn s.p s.bs → VIn (runE n s).p (runE n s).bs := by
  intro n
  induction n with
  | zero => intro s v; exact v
  | succ n ih =>
    intro s v
    unfold runE
    split
    · exact v
    · exact ih _ (stepP_v v)
theorem blks_v (d : Disk) (h : Int) : ∀ b ∈ blks d h, sm b.inp := by
  have key : ∀ i, sm (rdB d h i).inp := by
    intro i
    unfold rdB
    cases hb : blF (rdL d.ss d.ps h (1 + i)) with
    | none => unfold sm; simp [zBl]
    | some b =>
      have := blF_ok hb
      simp [blkOK, isNum, inn] at this
      simp only [Option.getD_some]
      exact this.1.2
  intro b hb
  simp only [blks, List.mem_cons, List.not_mem_nil, or_false] at hb
  rcases hb with rfl | rfl | rfl | rfl <;> exact key _
theorem es0_v {d : Disk} {h owner gen : Int} (h1 : 0 ≤ owner ∧ owner ≤ 3) (h2 : 1 ≤ gen ∧ gen ≤ 1000000) : VIn (es0 d h owner gen).p (es0 d h owner gen).bs := by
  refine ⟨?_, ?_, blks_v d h⟩
  · unfold sm; simp only [es0, px0]; omega
  · unfold sm; simp [es0, px0]
end Go.Proofs.Ytccoeoppjcegnaa

namespace Go.Proofs.Ytccoeoppjcegnaa
open Go
set_option maxRecDepth 100000
set_option maxHeartbeats 4000000
set_option linter.unusedSimpArgs false
set_option linter.unusedVariables false
theorem ofV_old {b : Bl} {v : Int} (h : b.ver < v) : ofV b v = ⟨v, 0, 0, 0⟩ := by unfold ofV; rw [if_pos h]
theorem ofV_own (v m b i : Int) : ofV ⟨v, m, b, i⟩ v = ⟨v, m, b, i⟩ := by unfold ofV; rw [if_neg (by simp)]
/-- The steps of a ballot alone. -/
theorem alone (d : Disk) (h v B w : Int) (bs : List Bl) (hh : 0 ≤ h ∧ h ≤ 3) (hB : 0 < B) (hl : bs.length = 4) (hv : ∀ b ∈ bs, b.ver < v) :
    (runE 40 ⟨d, px0 h v B w, bs⟩).p.phase = 5 ∧ (runE 40 ⟨d, px0 h v B w, bs⟩).p.value = w ∧ (runE 40 ⟨d, px0 h v B w, bs⟩).d = putD (putD d h (1 + h) (blT ⟨v, B, 0, 0⟩)) h (1 + h) (blT ⟨v, B, B, w⟩) := by
  obtain ⟨b0, b1, b2, b3, rfl⟩ : ∃ b0 b1 b2 b3, bs = [b0, b1, b2, b3] := by
    match bs, hl with
    | [b0, b1, b2, b3], _ => exact ⟨b0, b1, b2, b3, rfl⟩
  have h0 := hv b0 (by simp); have h1 := hv b1 (by simp); have h2 := hv b2 (by simp); have h3 := hv b3 (by simp)
  have o0 := ofV_old h0; have o1 := ofV_old h1; have o2 := ofV_old h2; have o3 := ofV_old h3
  have ow := ofV_own v
  have n0 : ∀ m b i : Int, (⟨v, m, b, i⟩ : Bl) ≠ b0 := fun m b i e => by rw [← e] at h0; simp at h0
  have n1 : ∀ m b i : Int, (⟨v, m, b, i⟩ : Bl) ≠ b1 := fun m b i e => by rw [← e] at h1; simp at h1
  have n2 : ∀ m b i : Int, (⟨v, m, b, i⟩ : Bl) ≠ b2 := fun m b i e => by rw [← e] at h2; simp at h2
  have n3 : ∀ m b i : Int, (⟨v, m, b, i⟩ : Bl) ≠ b3 := fun m b i e => by rw [← e] at h3; simp at h3
  have hB0 : ¬ B = 0 := by omega
  have hB1 : ¬ B < 0 := by omega
  have hB2 : ¬ (0 = B) := by omega
  have hc : h = 0 ∨ h = 1 ∨ h = 2 ∨ h = 3 := by omega
  rcases hc with rfl | rfl | rfl | rfl
  · simp [runE, over, stE, stepP, px0, ownB, stopW, writeP, readP, readB, finP, nx0, o0, o1, o2, o3, ow, n0, n1, n2, n3, hB0, hB1, hB2]
  · simp [runE, over, stE, stepP, px0, ownB, stopW, writeP, readP, readB, finP, nx0, o0, o1, o2, o3, ow, n0, n1, n2, n3, hB0, hB1, hB2]
  · simp [runE, over, stE, stepP, px0, ownB, stopW, writeP, readP, readB, finP, nx0, o0, o1, o2, o3, ow, n0, n1, n2, n3, hB0, hB1, hB2]
  · simp [runE, over, stE, stepP, px0, ownB, stopW, writeP, readP, readB, finP, nx0, o0, o1, o2, o3, ow, n0, n1, n2, n3, hB0, hB1, hB2]
end Go.Proofs.Ytccoeoppjcegnaa

namespace Go.Proofs.Ytccoeoppjcegnaa
open Go
set_option maxRecDepth 100000
set_option maxHeartbeats 1000000
set_option linter.unusedSimpArgs false
set_option linter.unusedVariables false
theorem putD_sure (ss : List Tx) (h a : Int) (t : Tx) : putD ⟨ss, []⟩ h a t = ⟨ss.set a.toNat t, []⟩ := by
  simp [putD, settleD, landL, goes, sOf]
theorem ldrF_ldrT {x : Leader} (hx : ldrOK x = true) : ldrF (ldrT x) = some x := by
  have h2 := hx
  simp [ldrOK, inn] at h2
  have ho : openF (ldrT x) 6 = some [x.ver, x.owner + 1, x.gen] := by
    unfold ldrT
    refine open_seal (by decide) ?_
    simp [intsOK, isNum, inn]
    omega
  have hw : IntKind.i64.wrap (x.owner + 1 - 1) = x.owner := by rw [wrap_id (by omega)]; omega
  unfold ldrF
  rw [ho]
  simp only [hw]
  rw [if_pos hx]
theorem ldrT_len (x : Leader) : (ldrT x).length = 16 := by simp [ldrT, sealF_length]
theorem blF_blT {b : Bl} (hb : blkOK b = true) : blF (blT b) = some b := by
  have h2 := hb
  simp [blkOK, isNum, inn] at h2
  have ho : openF (blT b) 5 = some [b.ver, b.mbal, b.bal, b.inp] := by
    unfold blT
    refine open_seal (by decide) ?_
    simp [intsOK, isNum, inn]
    omega
  unfold blF
  rw [ho]
  simp only
  rw [if_pos hb]
theorem maxM_old (v : Int) : ∀ l : List Bl, (∀ b ∈ l, b.ver < v) → maxM v l 0 = 0 := by
  intro l
  induction l with
  | nil => intro _; rfl
  | cons b l ih =>
    intro h
    unfold maxM
    rw [ofV_old (h b (by simp))]
    simp only [Int.lt_irrefl, if_false]
    exact ih fun x hx => h x (by simp [hx])
theorem rdLd_sure (ss : List Tx) (h : Int) : rdLd ⟨ss, []⟩ h = (ldrF (ss.getD 0 [])).getD (noL 0) := rfl
theorem rdB_sure (ss : List Tx) (h i : Int) : rdB ⟨ss, []⟩ h i = (blF (ss.getD (1 + i).toNat [])).getD zBl := rfl
theorem set_ok {ss : List Tx} {n : Nat} {t : Tx} (hd : diskOK ⟨ss, []⟩ = true) (ht : t.length ≤ 80) : diskOK ⟨ss.set n t, []⟩ = true := by
  obtain ⟨a1, a2, a3, a4⟩ := diskOK_iff.1 hd
  refine diskOK_iff.2 ⟨by simpa using a1, fun s hs => ?_, a3, a4⟩
  rcases List.mem_or_eq_of_mem_set hs with hs | rfl
  · exact a2 s hs
  · exact ht
theorem elect_alone {ss : List Tx} {h owner gen : Int} (hd : diskOK ⟨ss, []⟩ = true) (hh : 0 ≤ h ∧ h ≤ 3) (ho : 0 ≤ owner ∧ owner ≤ 3) (hg : 1 ≤ gen ∧ gen ≤ 1000000) (hv : (rdLd ⟨ss, []⟩ h).ver + 1 ≤ 1000000)
    (hb : ∀ b ∈ blks ⟨ss, []⟩ h, b.ver < (rdLd ⟨ss, []⟩ h).ver + 1) :
    nextB h ((rdLd ⟨ss, []⟩ h).ver + 1) (blks ⟨ss, []⟩ h) ≤ 1000000 ∧
    electA ⟨ss, []⟩ h owner gen = (⟨(ss.set (1 + h).toNat (blT ⟨(rdLd ⟨ss, []⟩ h).ver + 1, 4 + h, 4 + h, 1024 * gen + owner⟩)).set 0 (ldrT ⟨(rdLd ⟨ss, []⟩ h).ver + 1, owner, gen⟩), []⟩, ⟨(rdLd ⟨ss, []⟩ h).ver + 1, owner, gen⟩, 0) ∧
    blkOK ⟨(rdLd ⟨ss, []⟩ h).ver + 1, 4 + h, 4 + h, 1024 * gen + owner⟩ = true ∧ ldrOK ⟨(rdLd ⟨ss, []⟩ h).ver + 1, owner, gen⟩ = true := by
  obtain ⟨v1, v2, v3⟩ := rdLd_ver ⟨ss, []⟩ h
  generalize hL : (rdLd ⟨ss, []⟩ h).ver + 1 = v at *
  have hB : nextB h v (blks ⟨ss, []⟩ h) = 4 + h := by
    unfold nextB
    rw [maxM_old v _ hb]
    simp
  obtain ⟨a1, a2, a3⟩ := alone ⟨ss, []⟩ h v (4 + h) (1024 * gen + owner) (blks ⟨ss, []⟩ h) hh (by omega) rfl hb
  have hs0 : es0 ⟨ss, []⟩ h owner gen = ⟨⟨ss, []⟩, px0 h v (4 + h) (1024 * gen + owner), blks ⟨ss, []⟩ h⟩ := by
    unfold es0; rw [hL, hB]
  have m1 : (1024 * gen + owner).tmod 1024 = owner := by rw [Int.tmod_eq_emod_of_nonneg (by omega)]; omega
  have m2 : (1024 * gen + owner).tdiv 1024 = gen := by rw [Int.tdiv_eq_ediv_of_nonneg (by omega)]; omega
  have hok : ldrOK ⟨v, owner, gen⟩ = true := by simp [ldrOK, inn]; omega
  refine ⟨by rw [hB]; omega, ?_, ?_, hok⟩
  · unfold electA
    rw [hs0, hL]
    generalize runE 40 ⟨⟨ss, []⟩, px0 h v (4 + h) (1024 * gen + owner), blks ⟨ss, []⟩ h⟩ = r at *
    unfold endE
    rw [a1, a2, m1, m2, if_neg (by simp [hok]), a3, putD_sure, putD_sure, putD_sure]
    simp
  · simp [blkOK, isNum, inn]; omega
end Go.Proofs.Ytccoeoppjcegnaa

namespace Go.Proofs.Ytccoeoppjcegnaa
open Go
set_option maxRecDepth 100000
set_option maxHeartbeats 4000000
set_option linter.unusedSimpArgs false
set_option linter.unusedVariables false
def pxOK (p : Px) : Bool := inn p.host 0 3 && inn p.ver 0 1000000 && inn p.phase 1 6 && inn p.ballot 1 1000000 && decide (p.ballot.tmod 4 = p.host) && isNum p.value && inn p.next 0 4 && isNum p.best && inn p.bestBal 0 1000000
theorem pxOK_true (p : Px) (h : pxOK p = true) : E CX 182 [ePx p] [] = some { val := .bool true } := by
  simp only [pxOK, Bool.and_eq_true, decide_eq_true_eq] at h
  obtain ⟨⟨⟨⟨⟨⟨⟨⟨h1, h2⟩, h3⟩, h4⟩, h5⟩, h6⟩, h7⟩, h8⟩, h9⟩ := h
  have e1 := isHost_E p.host
  have e2 := isVer_E p.ver
  have e3 := within_E p.phase 1 6
  have e4 := within_E p.ballot 1 1000000
  have e6 := isNumber_E p.value
  have e7 := within_E p.next 0 4
  have e8 := isNumber_E p.best
  have e9 := within_E p.bestBal 0 1000000
  rw [h1] at e1; rw [h2] at e2; rw [h3] at e3; rw [h4] at e4; rw [h6] at e6; rw [h7] at e7; rw [h8] at e8; rw [h9] at e9
  refine E_fin Try.f182 _ an182 rfl rfl rfl Try.func182 rfl (by kernel_rfl) ?_
  simp [go_sem, ePx, e1, e2, e3, e4, e6, e7, e8, e9, h5]
theorem pxStart_E (h v b w : Int) (hp : pxOK (px0 h v b w) = true) : E CX 123 [.int .i64 h, .int .i64 v, .int .i64 b, .int .i64 w] [] = some { val := .tuple [ePx (px0 h v b w), .int .i64 0] } := by
  have e1 := pxOK_true _ hp
  simp only [ePx, px0] at e1
  refine E_fin Try.f123 _ an123 rfl rfl rfl Try.func123 rfl (by kernel_rfl) ?_
  simp [go_sem, ePx, px0, e1]
theorem ended_E (p : Px) : E CX 124 [ePx p] [] = some { val := .bool (over p) } := by
  refine E_fin Try.f124 _ an124 rfl rfl rfl Try.func124 rfl (by kernel_rfl) ?_
  unfold over
  by_cases c : p.phase = 5
  · simp [go_sem, ePx, c]
  · by_cases c2 : p.phase = 6 <;> simp [go_sem, ePx, c, c2]
theorem ownB_eq (l : List Bl) (n : Nat) (h : n < l.length) : l.getD n zBl = l[n] := by simp [h]
theorem bl_eta (x y : Bl) : (x.ver = y.ver ∧ x.mbal = y.mbal ∧ x.bal = y.bal ∧ x.inp = y.inp) ↔ x = y := by
  cases x; cases y; simp
theorem blV_eq (o : Option Bl) : blV o = .tuple [eBl (o.getD zBl), .bool o.isSome] := by cases o <;> rfl
section
variable (d : Disk) (h owner gen : Int) (hd : diskOK d = true) (hh : 0 ≤ h ∧ h ≤ 3) (hr : d.ps.length < 200) (ho : inn owner 0 3 = true) (hg : inn gen 1 1000000 = true) (hv : (rdLd d h).ver + 1 ≤ 1000000) (hb : nextB h ((rdLd d h).ver + 1) (blks d h) ≤ 1000000)
include hd hh hr ho hg hv hb
theorem elect_E : E CX 46 [eDisk d, .int .i64 h, .int .i64 owner, .int .i64 gen] [] = some { val := .tuple [eDisk (electA d h owner gen).1, eLeader (electA d h owner gen).2.1, .int .i64 (electA d h owner gen).2.2] } := by
  have g := diskOK_good hd
  have g1 := g.ss; have g2 := g.ps
  have i1 : inn h 0 3 = true := by simp [inn]; omega
  have hk : askC d h = 0 := by simp [askC, hd, i1]
  have e1 := codes_E d h (by omega) (by omega)
  have e2 := isFull_E d
  have hf : decide (d.ps.length = 200) = false := by simp; omega
  have e3 := isHost_E owner
  have e4 := isGen_E gen
  have e6 := leader_E d h hd
  obtain ⟨v1, v2, v3⟩ := rdLd_ver d h
  have e10 := isVer_E ((rdLd d h).ver + 1)
  have i2 : inn ((rdLd d h).ver + 1) 0 1000000 = true := by simp [inn]; omega
  rw [hk] at e1; rw [hf] at e2; rw [ho] at e3; rw [hg] at e4; rw [i2] at e10
  have o1 : 0 ≤ owner ∧ owner ≤ 3 := by simpa [inn] using ho
  have o2 : 1 ≤ gen ∧ gen ≤ 1000000 := by simpa [inn] using hg
  have er : ∀ i : Int, 0 ≤ i ∧ i ≤ 3 → E CX 120 [eDisk d, .int .i64 h, .int .i64 (1 + i)] [] = some { val := .str (rdL d.ss d.ps h (1 + i)) } := fun i hi => read_E d h (1 + i) (by omega) (by omega)
  have eb : ∀ i : Int, 0 ≤ i ∧ i ≤ 3 → E CX 119 [.str (rdL d.ss d.ps h (1 + i))] [] = some { val := .tuple [eBl (rdB d h i), .bool (blF (rdL d.ss d.ps h (1 + i))).isSome] } := fun i hi => by
    have := blockOf_E (rdL d.ss d.ps h (1 + i)) (by have := rdL_len hd h (1 + i); omega)
    rw [blV_eq] at this
    exact this
  have e9 := nextBallot_E h ((rdLd d h).ver + 1) (blks d h) hh (by simp [blks]) (blks_mbal d h)
  have bpos : 0 < nextB h ((rdLd d h).ver + 1) (blks d h) ∧ (nextB h ((rdLd d h).ver + 1) (blks d h)).tmod 4 = h := by
    have hm := maxM_bound ((rdLd d h).ver + 1) (blks d h) 0 (by omega) (blks_mbal d h)
    unfold nextB
    rw [Int.tdiv_eq_ediv_of_nonneg hm.1]
    refine ⟨by omega, ?_⟩
    rw [Int.tmod_eq_emod_of_nonneg (by omega)]
    omega
  have e11 := pxStart_E h ((rdLd d h).ver + 1) (nextB h ((rdLd d h).ver + 1) (blks d h)) (1024 * gen + owner) (by
    have j1 : inn (nextB h ((rdLd d h).ver + 1) (blks d h)) 1 1000000 = true := by simp [inn]; omega
    have j2 : isNum (1024 * gen + owner) = true := by simp [isNum, inn]; omega
    have j3 : decide ((nextB h ((rdLd d h).ver + 1) (blks d h)).tmod 4 = h) = true := by simpa using bpos.2
    simp [pxOK, px0, i1, i2, j1, j2, bpos.2, show inn 1 1 6 = true by decide, show inn 0 0 4 = true by decide, show isNum 0 = true by decide, show inn 0 0 1000000 = true by decide])
  have e12 := copied_E d (by omega) (by omega)
  have hin : ESIn h (es0 d h owner gen) := es0_in hd hh hr
  have hfin := runE_in (h := h) 40 _ hin
  have hov := runE_ends (h := h) 40 _ hin (by simp [es0, px0, mu])
  -- the end
  unfold electA
  have hblk : (blks d h).length = 4 := rfl
  generalize hL : rdLd d h = L at *
  have hs0 : es0 d h owner gen = ⟨d, px0 h (L.ver + 1) (nextB h (L.ver + 1) (blks d h)) (1024 * gen + owner), blks d h⟩ := by simp [es0, hL]
  generalize hB : nextB h (L.ver + 1) (blks d h) = B at *
  have w1 := wrap_id (n := L.ver + 1) (by omega)
  have w2 := wrap_id (n := 1024 * gen) (by omega)
  have w3 := wrap_id (n := 1024 * gen + owner) (by omega)
  simp only [eDisk, eLeader] at e1 e2 e6 e12 er
  refine E_fin Try.f46 _ an46 rfl rfl rfl Try.func46 rfl (by kernel_rfl) ?_
  have nb : ¬ (1000000 : Int) < B := by omega
  simp only [ePx, px0] at e11
  simp [go_sem, eDisk, eLeader, e1, e2, e3, e4, first3_E, e6]
  refine loop_for (fun X => fin CX _ _ X = _) [(0 : Int), 1, 2, 3] (fun n (a : List Bl) => a.length = n) (fun n a => ⟨SS [(1, .int .i64 h), (2, .int .i64 owner), (3, .int .i64 gen), (4, .ptr [4] 0 0), (8, .ptr [8] 0 0), (9, .ptr [9] 0 0), (12, .ptr [12] 0 0), (13, .ref [57] 0 a.length), (58, .int .i64 n)],
      HS [([4], ⟨true, 32, 2, [eDisk d]⟩), ([8], ⟨true, 32, 2, [.agg [.nil, .nil]]⟩), ([9], ⟨true, 72, 3, [.agg [.int .i64 0, .int .i64 0, .int .i64 0]]⟩), ([12], ⟨true, 72, 3, [eLeader L]⟩), ([57], ⟨false, 138, 4, a.map eBl⟩)]⟩)
    (fun r n a => (.exit 0, ⟨SS [(1, .int .i64 h), (2, .int .i64 owner), (3, .int .i64 gen), (4, .ptr [4] 0 0), (8, .ptr [8] 0 0), (9, .ptr [9] 0 0), (12, .ptr [12] 0 0), (13, .ref [57] 0 (a ++ r.map (rdB d h)).length)],
      HS [([4], ⟨true, 32, 2, [eDisk d]⟩), ([8], ⟨true, 32, 2, [.agg [.nil, .nil]]⟩), ([9], ⟨true, 72, 3, [.agg [.int .i64 0, .int .i64 0, .int .i64 0]]⟩), ([12], ⟨true, 72, 3, [eLeader L]⟩), ([57], ⟨false, 138, 4, (a ++ r.map (rdB d h)).map eBl⟩)]⟩)) [] rfl ?_ ?_ ?_ ?_ ?_
  · simp [go_sem, eDisk, eLeader]
  · intro R n a x r hn hx hd' hI hR
    have hx := hx hn
    simp only [List.length_cons, List.length_nil] at hn
    have hxn : x = (n : Int) := by
      rw [← hx]
      have : n = 0 ∨ n = 1 ∨ n = 2 ∨ n = 3 := by omega
      rcases this with rfl | rfl | rfl | rfl <;> rfl
    subst hxn
    have e7 := er (n : Int) (by omega)
    have e8 := eb (n : Int) (by omega)
    have := hR (a ++ [rdB d h n]) (by simp [hI]) (by simp)
    simp [go_sem, eDisk, eLeader, eBl] at this
    simp only [eBl] at e8
    simp [go_sem, eDisk, eLeader, eBl, e7, e8, show (n : Int) < 4 by omega, wrap_id (n := 1 + (n : Int)) (by omega), wrap_id (n := (n : Int) + 1) (by omega), show a.length + 1 ≤ 1073741824 by omega]
    exact this
  · intro a hI; simp at hI; simp [go_sem, eDisk, eLeader]
  · intro _; simp
  · have hbl : [(0 : Int), 1, 2, 3].map (rdB d h) = blks d h := rfl
    simp only [List.nil_append, hbl]
    simp [go_sem, eDisk, eLeader, hblk, e9, e10, e11, e12, nb, w1, w2, w3]
    refine loop_at (fun X => fin CX _ _ X = _) (fun s : ES => ESIn h s) (fun s => ⟨SS [(1, .int .i64 h), (8, .ptr [8] 0 0), (9, .ptr [9] 0 0), (12, .ptr [12] 0 0), (13, .ref [57] 0 4), (17, .int .i64 (L.ver + 1)), (19, .ptr [19] 0 0), (21, .ptr [21] 0 0)],
        HS [([8], ⟨true, 32, 2, [.agg [.nil, .nil]]⟩), ([9], ⟨true, 72, 3, [.agg [.int .i64 0, .int .i64 0, .int .i64 0]]⟩), ([12], ⟨true, 72, 3, [eLeader L]⟩), ([57], ⟨false, 138, 4, s.bs.map eBl⟩), ([19], ⟨true, 144, 8, [ePx s.p]⟩), ([21], ⟨true, 32, 2, [eDisk s.d]⟩)]⟩)
      (fun s => (.exit 2, ⟨SS [(1, .int .i64 h), (8, .ptr [8] 0 0), (9, .ptr [9] 0 0), (12, .ptr [12] 0 0), (17, .int .i64 (L.ver + 1)), (19, .ptr [19] 0 0), (21, .ptr [21] 0 0)],
        HS [([8], ⟨true, 32, 2, [.agg [.nil, .nil]]⟩), ([9], ⟨true, 72, 3, [.agg [.int .i64 0, .int .i64 0, .int .i64 0]]⟩), ([12], ⟨true, 72, 3, [eLeader L]⟩), ([19], ⟨true, 144, 8, [ePx (runE 40 s).p]⟩), ([21], ⟨true, 32, 2, [eDisk (runE 40 s).d]⟩)]⟩)) (fun s => mu s.p) (es0 d h owner gen) hin ?_ ?_ ?_
    · rw [hs0]; simp [go_sem, eDisk, eLeader, ePx, px0]
    · intro s gI
      have hst : s.p.host = h := gI.host
      have gp : PxIn s.p s.bs := ⟨gI.len, by rw [hst]; exact hh, by have := gI.n0; have := gI.n5; omega⟩
      have s1 := ended_E s.p
      have s2 := step_E s.p s.bs gp
      cases hov' : over s.p
      · obtain ⟨gN, hlt⟩ := stE_in gI hov'
        have hrun := runE_step gI hov'
        rw [hov'] at s1
        have sl := (stepP_in gI hov').2.1
        have h4 : h.toNat < 4 := by omega
        have hl1 : h.toNat < s.bs.length := by have := gI.len; omega
        have hl2 : h.toNat < (stepP s.p s.bs).2.length := by omega
        have blen := gI.len
        have hEq : stE s = ⟨if (stepP s.p s.bs).2[h.toNat] = s.bs[h.toNat] then s.d else putD s.d h (1 + h) (blT (stepP s.p s.bs).2[h.toNat]), (stepP s.p s.bs).1, (stepP s.p s.bs).2⟩ := by
          simp [stE, hst, hl1, hl2]
        have s3 := blText_E (stepP s.p s.bs).2[h.toNat]
        have gd := diskOK_good gI.ok
        have s4 := put_E s.d h (1 + h) (blT (stepP s.p s.bs).2[h.toNat]) ⟨gd.ss, by have := gd.ps; omega, gd.at_⟩ (by omega)
        have hpl : (putD s.d h (1 + h) (blT (stepP s.p s.bs).2[h.toNat])).ss.length = 64 := (putD_good s.d h (1 + h) (blT (stepP s.p s.bs).2[h.toNat]) 200 gd (by omega)).ss
        generalize stepP s.p s.bs = q at *
        generalize hx : s.bs[h.toNat] = x at *
        generalize hy : q.2[h.toNat] = y at *
        generalize putD s.d h (1 + h) (blT y) = pd at *
        generalize blT y = tx at *
        by_cases hq : y = x
        · rw [if_pos hq] at hEq
          subst hq
          rw [hEq] at gN hlt hrun
          simp only [ePx, eBl] at s1 s2
          simp [go_sem, eDisk, eLeader, ePx, eBl, s1, s2, hh.1, h4, hl1, hl2, hx, hy, blen, sl]
          exact ⟨⟨s.d, q.1, q.2⟩, gN, hlt, by simp [go_sem, eDisk, eLeader, ePx, eBl], by rw [hrun]⟩
        · rw [if_neg hq] at hEq
          rw [hEq] at gN hlt hrun
          simp only [ePx, eBl] at s1 s2 s3
          simp only [eDisk] at s4
          have hne : ¬ (y.ver = x.ver ∧ y.mbal = x.mbal ∧ y.bal = x.bal ∧ y.inp = x.inp) := by rw [bl_eta]; exact hq
          by_cases c1 : y.ver = x.ver
          · have d1 : (y.ver == x.ver) = true := by simp [c1]
            by_cases c2 : y.mbal = x.mbal
            · have d2 : (y.mbal == x.mbal) = true := by simp [c2]
              by_cases c3 : y.bal = x.bal
              · have d3 : (y.bal == x.bal) = true := by simp [c3]
                have c4 : ¬ y.inp = x.inp := fun h => hne ⟨c1, c2, c3, h⟩
                have b4 : (y.inp == x.inp) = false := by simp [c4]
                simp [go_sem, eDisk, eLeader, ePx, eBl, s1, s2, s3, s4, hh.1, h4, hl1, hl2, hx, hy, blen, sl, d1, d2, d3, b4, hpl, wrap_id (n := 1 + h) (by omega)]
                exact ⟨⟨pd, q.1, q.2⟩, gN, hlt, by simp [go_sem, eDisk, eLeader, ePx, eBl, hpl], by rw [hrun]⟩
              · have b3 : (y.bal == x.bal) = false := by simp [c3]
                simp [go_sem, eDisk, eLeader, ePx, eBl, s1, s2, s3, s4, hh.1, h4, hl1, hl2, hx, hy, blen, sl, d1, d2, b3, hpl, wrap_id (n := 1 + h) (by omega)]
                exact ⟨⟨pd, q.1, q.2⟩, gN, hlt, by simp [go_sem, eDisk, eLeader, ePx, eBl, hpl], by rw [hrun]⟩
            · have b2 : (y.mbal == x.mbal) = false := by simp [c2]
              simp [go_sem, eDisk, eLeader, ePx, eBl, s1, s2, s3, s4, hh.1, h4, hl1, hl2, hx, hy, blen, sl, d1, b2, hpl, wrap_id (n := 1 + h) (by omega)]
              exact ⟨⟨pd, q.1, q.2⟩, gN, hlt, by simp [go_sem, eDisk, eLeader, ePx, eBl, hpl], by rw [hrun]⟩
          · have b1 : (y.ver == x.ver) = false := by simp [c1]
            simp [go_sem, eDisk, eLeader, ePx, eBl, s1, s2, s3, s4, hh.1, h4, hl1, hl2, hx, hy, blen, sl, b1, hpl, wrap_id (n := 1 + h) (by omega)]
            exact ⟨⟨pd, q.1, q.2⟩, gN, hlt, by simp [go_sem, eDisk, eLeader, ePx, eBl, hpl], by rw [hrun]⟩
      · rw [hov'] at s1
        simp only [ePx] at s1
        rw [runE_over hov']
        simp [go_sem, eDisk, eLeader, ePx, s1]
    · unfold endE
      rw [hL]
      have gdE := diskOK_good hfin.ok
      have hvv := (runE_v 40 _ (es0_v (d := d) (h := h) o1 o2)).val
      generalize runE 40 (es0 d h owner gen) = s at *
      have t1 := leaderOK_E ⟨L.ver + 1, s.p.value.tmod 1024, s.p.value.tdiv 1024⟩
      have vdiv : -9223372036854775808 ≤ s.p.value.tdiv 1024 ∧ s.p.value.tdiv 1024 < 9223372036854775808 := by
        unfold sm at hvv
        rw [Int.tdiv_eq_ediv_of_nonneg hvv.1]
        omega
      have w4 := wrap_id vdiv
      simp only [eLeader] at t1
      by_cases c6 : s.p.phase = 6
      · rw [if_pos (.inl c6)]
        simp [go_sem, eDisk, eLeader, ePx, c6, w4]
      · cases hl : ldrOK ⟨L.ver + 1, s.p.value.tmod 1024, s.p.value.tdiv 1024⟩
        · rw [if_pos (.inr rfl)]
          rw [hl] at t1
          simp [go_sem, eDisk, eLeader, ePx, c6, w4, t1]
        · rw [if_neg (by simp [c6])]
          rw [hl] at t1
          have hw : s.p.value.tmod 1024 ≤ 3 ∧ -1 ≤ s.p.value.tmod 1024 := by
            simp [ldrOK, inn] at hl
            omega
          have t2 := ldrText_E ⟨L.ver + 1, s.p.value.tmod 1024, s.p.value.tdiv 1024⟩ (wrap_id (by simp only; omega))
          have t3 := put_E s.d h 0 (ldrT ⟨L.ver + 1, s.p.value.tmod 1024, s.p.value.tdiv 1024⟩) ⟨gdE.ss, by have := gdE.ps; omega, gdE.at_⟩ (by omega)
          have hpl : (putD s.d h 0 (ldrT ⟨L.ver + 1, s.p.value.tmod 1024, s.p.value.tdiv 1024⟩)).ss.length = 64 := (putD_good s.d h 0 (ldrT ⟨L.ver + 1, s.p.value.tmod 1024, s.p.value.tdiv 1024⟩) 200 gdE (by omega)).ss
          generalize putD s.d h 0 (ldrT ⟨L.ver + 1, s.p.value.tmod 1024, s.p.value.tdiv 1024⟩) = pd at *
          generalize ldrT ⟨L.ver + 1, s.p.value.tmod 1024, s.p.value.tdiv 1024⟩ = tx at *
          simp only [eLeader] at t2
          simp only [eDisk] at t3
          simp [go_sem, eDisk, eLeader, ePx, c6, w4, t1, t2, t3, hpl]
end
end Go.Proofs.Ytccoeoppjcegnaa

namespace Go.Proofs.Ytccoeoppjcegnaa
open Go
set_option maxRecDepth 100000
set_option maxHeartbeats 1000000
set_option linter.unusedSimpArgs false
set_option linter.unusedVariables false
theorem sameTexts_E (a b : List Tx) (ha : a.length ≤ 1073741824) : E CX 20 [.sl 1 (a.map .str), .sl 1 (b.map .str)] [] = some { val := .bool (decide (a = b)) } := by
  refine E_fin Try.f20 _ an20 rfl rfl rfl Try.func20 rfl (by kernel_rfl) ?_
  by_cases hl : a.length = b.length
  · simp [go_sem, hl]
    refine loop_list (fun X => fin CX _ _ X = _) a (fun n _ => True) (fun n (_ : Unit) => ⟨SS [(0, .sl 1 (a.map .str)), (1, .sl 1 (b.map .str)), (5, .int .i64 n)], HE⟩) (fun l n _ => if l = b.drop n then (.exit 0, ⟨SS [], HE⟩) else (.ret, ⟨SS [(4, .bool false)], HE⟩)) () trivial ?_ ?_ ?_ ?_ ?_
    · simp [go_sem]
    · intro n _ x t hn hx hd _
      have hn' : n < b.length := by omega
      obtain ⟨y, u, hy, hu, hu'⟩ := cut_at hn'
      have hx := hx hn
      by_cases hxy : x = y
      · simp [go_sem, hn, hn', hx, hy, hxy, hu, hu', wrap_id (n := (n : Int) + 1) (by omega)]
      · simp [go_sem, hn, hn', hx, hy, hxy, hu, hu']
    · intro _ _; simp [go_sem, hl]
    · intro _; simp [hl]
    · by_cases h : a = b <;> simp [go_sem, h]
  · have : a ≠ b := fun h => hl (by rw [h])
    have hl' : ¬ ((a.length : Int) = b.length) := by omega
    simp [go_sem, hl', this]
theorem sameMoves_E (a b : List Move) (ha : a.length ≤ 1073741824) : E CX 19 [.sl 3 (a.map eMove), .sl 3 (b.map eMove)] [] = some { val := .bool (decide (a = b)) } := by
  refine E_fin Try.f19 _ an19 rfl rfl rfl Try.func19 rfl (by kernel_rfl) ?_
  by_cases hl : a.length = b.length
  · simp [go_sem, hl]
    refine loop_list (fun X => fin CX _ _ X = _) a (fun n _ => True) (fun n (_ : Unit) => ⟨SS [(0, .sl 3 (a.map eMove)), (1, .sl 3 (b.map eMove)), (5, .int .i64 n)], HE⟩) (fun l n _ => if l = b.drop n then (.exit 0, ⟨SS [], HE⟩) else (.ret, ⟨SS [(4, .bool false)], HE⟩)) () trivial ?_ ?_ ?_ ?_ ?_
    · simp [go_sem]
    · intro n _ x t hn hx hd _
      have hn' : n < b.length := by omega
      obtain ⟨y, u, hy, hu, hu'⟩ := cut_at hn'
      have hx := hx hn
      obtain ⟨x0, x1, x2⟩ := x
      obtain ⟨y0, y1, y2⟩ := y
      by_cases h0 : x0 = y0
      · by_cases h1 : x1 = y1
        · by_cases h2 : x2 = y2
          · simp [go_sem, eMove, hn, hn', hx, hy, h0, h1, h2, hu, hu', wrap_id (n := (n : Int) + 1) (by omega)]
          · simp [go_sem, eMove, hn, hn', hx, hy, h0, h1, h2, hu, hu']
        · simp [go_sem, eMove, hn, hn', hx, hy, h0, h1, hu, hu']
      · simp [go_sem, eMove, hn, hn', hx, hy, h0, hu, hu']
    · intro _ _; simp [go_sem, hl]
    · intro _; simp [hl]
    · by_cases h : a = b <;> simp [go_sem, h]
  · have : a ≠ b := fun h => hl (by rw [h])
    have hl' : ¬ ((a.length : Int) = b.length) := by omega
    simp [go_sem, hl', this]
theorem at_E (bs : List Int) (i n : Int) (hb : ∀ b ∈ bs, 0 ≤ b ∧ b < 256) (hl : bs.length ≤ 1073741824) (hi : 0 ≤ i ∧ i ≤ 1000000) (hn : n ≤ 1000000) : ∃ v : Int, E CX 14 [.sl 1 (bs.map (.int .u8)), .int .i64 i, .int .i64 n] [] = some { val := .int .i64 v } ∧ 0 ≤ v ∧ (v < n ∨ v = 0) := by
  by_cases h1 : n ≤ 1
  · refine ⟨0, ?_, by omega, .inr rfl⟩
    refine E_fin Try.f14 _ an14 rfl rfl rfl Try.func14 rfl (by kernel_rfl) ?_
    simp [go_sem, h1]
  · have hn0 : ¬ n = 0 := by omega
    by_cases h2 : bs = []
    · subst h2
      refine ⟨(i * 7).tmod n, ?_, ?_, .inl ?_⟩
      · refine E_fin Try.f14 _ an14 rfl rfl rfl Try.func14 rfl (by kernel_rfl) ?_
        simp [go_sem, h1, hn0, wrap_id (n := i * 7) (by omega)]
      · rw [Int.tmod_eq_emod_of_nonneg (by omega)]; exact Int.emod_nonneg _ (by omega)
      · rw [Int.tmod_eq_emod_of_nonneg (by omega)]; exact Int.emod_lt_of_pos _ (by omega)
    · have hlen : 0 < bs.length := List.length_pos_iff.2 h2
      have hz : ¬ (bs.length : Int) = 0 := by omega
      have m1 : 0 ≤ i.tmod bs.length ∧ i.tmod bs.length < bs.length := by
        rw [Int.tmod_eq_emod_of_nonneg (by omega)]; exact ⟨Int.emod_nonneg _ (by omega), Int.emod_lt_of_pos _ (by omega)⟩
      have m2 : 0 ≤ (i + 1).tmod bs.length ∧ (i + 1).tmod bs.length < bs.length := by
        rw [Int.tmod_eq_emod_of_nonneg (by omega)]; exact ⟨Int.emod_nonneg _ (by omega), Int.emod_lt_of_pos _ (by omega)⟩
      have m3 : 0 ≤ i.tdiv bs.length ∧ i.tdiv bs.length ≤ 1000000 := by
        rw [Int.tdiv_eq_ediv_of_nonneg (by omega)]
        exact ⟨Int.ediv_nonneg (by omega) (by omega), Int.le_trans (Int.ediv_le_self _ (by omega)) (by omega)⟩
      obtain ⟨x, hx⟩ : ∃ x, bs[(i.tmod bs.length).toNat]? = some x := ⟨_, List.getElem?_eq_getElem (by omega)⟩
      obtain ⟨y, hy⟩ : ∃ y, bs[((i + 1).tmod bs.length).toNat]? = some y := ⟨_, List.getElem?_eq_getElem (by omega)⟩
      have bx := hb x (List.mem_of_getElem? hx)
      have bY := hb y (List.mem_of_getElem? hy)
      refine ⟨(x * 31 + y + i.tdiv bs.length).tmod n, ?_, ?_, .inl ?_⟩
      · refine E_fin Try.f14 _ an14 rfl rfl rfl Try.func14 rfl (by kernel_rfl) ?_
        have w0 := wrap_id (n := i.tdiv (bs.length : Int)) (by omega)
        have t1 : (i.tmod bs.length).toNat < bs.length := by omega
        have t2 : ((i + 1).tmod bs.length).toNat < bs.length := by omega
        have hx' : bs[(i.tmod bs.length).toNat] = x := by rw [List.getElem?_eq_getElem t1] at hx; injection hx
        have hy' : bs[((i + 1).tmod bs.length).toNat] = y := by rw [List.getElem?_eq_getElem t2] at hy; injection hy
        simp [go_sem, h1, hn0, h2, hz, hx', hy', m1.1, m2.1, t1, t2, w0, wrap_id (n := i + 1) (by omega), wrap_id (n := x) (by omega), wrap_id (n := y) (by omega), wrap_id (n := x * 31) (by omega), wrap_id (n := x * 31 + y) (by omega), wrap_id (n := x * 31 + y + i.tdiv bs.length) (by omega)]
      · rw [Int.tmod_eq_emod_of_nonneg (by omega)]; exact Int.emod_nonneg _ (by omega)
      · rw [Int.tmod_eq_emod_of_nonneg (by omega)]; exact Int.emod_lt_of_pos _ (by omega)
end Go.Proofs.Ytccoeoppjcegnaa

namespace Go.Proofs.Ytccoeoppjcegnaa
open Go
set_option maxRecDepth 100000
set_option maxHeartbeats 1000000
set_option linter.unusedSimpArgs false
set_option linter.unusedVariables false
structure Src where
  bs : List Int
  n : Nat
  acc : Int
def eSrc (s : Src) : Blk := ⟨true, 158, 3, [.agg [.sl 1 (s.bs.map (.int .u8)), .int .i64 s.n, .int .i64 s.acc]]⟩
structure SrcOK (s : Src) (k : Nat) : Prop where
  bytes : ∀ b ∈ s.bs, 0 ≤ b ∧ b < 256
  n : s.n ≤ k
  acc : 0 ≤ s.acc ∧ s.acc < 2147483648
  len : s.bs.length ≤ 1073741824
def byteF (s : Src) : Int × Src :=
  if s.n < s.bs.length then (s.bs.getD s.n 0, ⟨s.bs, s.n + 1, (s.acc * 31 + s.bs.getD s.n 0 + 7).tmod 2147483648⟩)
  else if 3000 < s.n + 1 then (0, ⟨s.bs, s.n + 1, s.acc⟩)
  else (((s.acc * 1103515245 + 12345).tmod 2147483648).tdiv 65536 |>.tmod 256, ⟨s.bs, s.n + 1, (s.acc * 1103515245 + 12345).tmod 2147483648⟩)
theorem byteF_ok {s : Src} {k : Nat} (g : SrcOK s k) : SrcOK (byteF s).2 (k + 1) ∧ 0 ≤ (byteF s).1 ∧ (byteF s).1 < 256 := by
  have h1 := g.bytes; have h2 := g.n; have h3 := g.acc; have h4 := g.len
  unfold byteF
  split
  · rename_i h
    have hb := h1 s.bs[s.n] (List.getElem_mem h)
    rw [List.getD_eq_getElem?_getD, List.getElem?_eq_getElem h, Option.getD_some]
    refine ⟨⟨h1, by simp only; omega, ?_, h4⟩, hb⟩
    simp only
    rw [Int.tmod_eq_emod_of_nonneg (by omega)]
    omega
  · split
    · exact ⟨⟨h1, by simp only; omega, h3, h4⟩, by omega, by omega⟩
    · refine ⟨⟨h1, by simp only; omega, ?_, h4⟩, ?_⟩
      · simp only
        rw [Int.tmod_eq_emod_of_nonneg (by omega)]
        omega
      · simp only
        rw [Int.tmod_eq_emod_of_nonneg (show (0:Int) ≤ s.acc * 1103515245 + 12345 by omega), Int.tdiv_eq_ediv_of_nonneg (by omega), Int.tmod_eq_emod_of_nonneg (by omega)]
        omega
theorem byte_E (s : Src) (k : Nat) (hk : k ≤ 1000000000) (g : SrcOK s k) : E CX 186 [.ptr [0] 0 0] [([0], eSrc s)] = some { val := .int .i64 (byteF s).1, io := [eSrc (byteF s).2] } := by
  have h1 := g.bytes; have h2 := g.n; have h3 := g.acc; have h4 := g.len
  refine E_fin Try.f186 _ an186 rfl rfl rfl Try.func186 rfl (by kernel_rfl) ?_
  unfold byteF
  by_cases h : s.n < s.bs.length
  · have hb := h1 s.bs[s.n] (List.getElem_mem h)
    simp [go_sem, eSrc, h, wrap_id (n := (s.n : Int) + 1) (by omega), wrap_id (n := (s.n : Int)) (by omega), wrap_id (n := s.acc * 31) (by omega), wrap_id (n := s.acc * 31 + s.bs[s.n]) (by omega), wrap_id (n := s.acc * 31 + s.bs[s.n] + 7) (by omega), wrap_id (n := s.bs[s.n]) (by omega), show ((s.n : Int) + 1 ≤ s.bs.length) by omega]
  · by_cases h' : 3000 < s.n + 1
    · simp [go_sem, eSrc, h, h', wrap_id (n := (s.n : Int) + 1) (by omega), show ¬ ((s.n : Int) + 1 ≤ s.bs.length) by omega, show (3000 : Int) < (s.n : Int) + 1 by omega]
    · have hd : 0 ≤ ((s.acc * 1103515245 + 12345).tmod 2147483648).tdiv 65536 ∧ ((s.acc * 1103515245 + 12345).tmod 2147483648).tdiv 65536 < 32768 := by
        rw [Int.tmod_eq_emod_of_nonneg (show (0:Int) ≤ s.acc * 1103515245 + 12345 by omega), Int.tdiv_eq_ediv_of_nonneg (by omega)]
        omega
      simp [go_sem, eSrc, h, h', wrap_id (n := ((s.acc * 1103515245 + 12345).tmod 2147483648).tdiv 65536) (by omega), wrap_id (n := (s.n : Int) + 1) (by omega), show ¬ ((s.n : Int) + 1 ≤ s.bs.length) by omega, show ¬ (3000 : Int) < (s.n : Int) + 1 by omega, wrap_id (n := s.acc * 1103515245) (by omega), wrap_id (n := s.acc * 1103515245 + 12345) (by omega)]
def nextF (m : Int) (s : Src) : Int × Src :=
  if m ≤ 1 then (0, s) else if m ≤ 256 then ((byteF s).1.tmod m, (byteF s).2)
  else (((byteF s).1 * 65536 + (byteF (byteF s).2).1 * 256 + (byteF (byteF (byteF s).2).2).1).tmod m, (byteF (byteF (byteF s).2).2).2)
theorem SrcOK.mono {s : Src} {k j : Nat} (g : SrcOK s k) (h : k ≤ j) : SrcOK s j := ⟨g.bytes, by have := g.n; omega, g.acc, g.len⟩
theorem nextF_ok {s : Src} {k : Nat} (m : Int) (g : SrcOK s k) : SrcOK (nextF m s).2 (k + 3) ∧ 0 ≤ (nextF m s).1 ∧ ((nextF m s).1 < m ∨ (nextF m s).1 = 0) := by
  obtain ⟨g1, a1, b1⟩ := byteF_ok g
  obtain ⟨g2, a2, b2⟩ := byteF_ok g1
  obtain ⟨g3, a3, b3⟩ := byteF_ok g2
  unfold nextF
  split
  · exact ⟨g.mono (by omega), by simp, .inr rfl⟩
  · split
    · refine ⟨g1.mono (by omega), ?_, .inl ?_⟩
      · simp only; rw [Int.tmod_eq_emod_of_nonneg a1]; exact Int.emod_nonneg _ (by omega)
      · simp only; rw [Int.tmod_eq_emod_of_nonneg a1]; exact Int.emod_lt_of_pos _ (by omega)
    · refine ⟨g3, ?_, .inl ?_⟩
      · simp only; rw [Int.tmod_eq_emod_of_nonneg (by omega)]; exact Int.emod_nonneg _ (by omega)
      · simp only; rw [Int.tmod_eq_emod_of_nonneg (by omega)]; exact Int.emod_lt_of_pos _ (by omega)
theorem next_E (m : Int) (s : Src) (k : Nat) (hk : k ≤ 900000000) (g : SrcOK s k) : E CX 139 [.ptr [0] 0 0, .int .i64 m] [([0], eSrc s)] = some { val := .int .i64 (nextF m s).1, io := [eSrc (nextF m s).2] } := by
  refine E_fin Try.f139 _ an139 rfl rfl rfl Try.func139 rfl (by kernel_rfl) ?_
  obtain ⟨g1, a1, b1⟩ := byteF_ok g
  obtain ⟨g2, a2, b2⟩ := byteF_ok g1
  obtain ⟨g3, a3, b3⟩ := byteF_ok g2
  have e1 := byte_E s k (by omega) g
  have e2 := byte_E (byteF s).2 (k + 1) (by omega) g1
  have e3 := byte_E (byteF (byteF s).2).2 (k + 1 + 1) (by omega) g2
  unfold nextF
  generalize byteF (byteF (byteF s).2).2 = x3 at *
  generalize byteF (byteF s).2 = x2 at *
  generalize byteF s = x1 at *
  by_cases h1 : m ≤ 1
  · simp [go_sem, eSrc, h1]
  · by_cases h2 : m ≤ 256
    · simp only [eSrc] at e1
      have h0 : ¬ m = 0 := by omega
      simp [go_sem, eSrc, h1, h2, h0, e1]
    · simp only [eSrc] at e1 e2 e3
      have h0 : ¬ m = 0 := by omega
      simp [go_sem, eSrc, h1, h2, h0, e1, e2, e3, wrap_id (n := x1.1 * 65536) (by omega), wrap_id (n := x2.1 * 256) (by omega), wrap_id (n := x1.1 * 65536 + x2.1 * 256) (by omega), wrap_id (n := x1.1 * 65536 + x2.1 * 256 + x3.1) (by omega)]
def someF : List Unit → Tx × Src → Tx × Src
  | [], a => a
  | _ :: r, a => someF r (a.1 ++ [byteOf (97 + (nextF 26 a.2).1)], (nextF 26 a.2).2)
theorem someF_ok : ∀ (l : List Unit) (a : Tx × Src) (k : Nat), SrcOK a.2 k → SrcOK (someF l a).2 (k + 3 * l.length) ∧ (someF l a).1.length = a.1.length + l.length := by
  intro l
  induction l with
  | nil => intro a k g; exact ⟨g, rfl⟩
  | cons u l ih =>
    intro a k g
    obtain ⟨h1, h2⟩ := ih (a.1 ++ [byteOf (97 + (nextF 26 a.2).1)], (nextF 26 a.2).2) (k + 3) (nextF_ok 26 g).1
    unfold someF
    refine ⟨h1.mono (by simp; omega), ?_⟩
    rw [h2]; simp; omega
theorem some_E (m : Nat) (s : Src) (k : Nat) (hk : k ≤ 800000000) (hm : m ≤ 1000000) (g : SrcOK s k) : E CX 187 [.ptr [0] 0 0, .int .i64 m] [([0], eSrc s)] = some { val := .str (someF (List.replicate m ()) ([], s)).1, io := [eSrc (someF (List.replicate m ()) ([], s)).2] } := by
  refine E_fin Try.f187 _ an187 rfl rfl rfl Try.func187 rfl (by kernel_rfl) ?_
  have hl : (List.replicate m ()).length = m := by simp
  generalize List.replicate m () = l at *
  simp [go_sem, eSrc]
  refine loop_for (fun X => fin CX _ _ X = _) l (fun n (a : Tx × Src) => a.1.length = n ∧ SrcOK a.2 (k + 3 * n)) (fun n a => ⟨SS [(0, .ptr [0] 0 0), (1, .int .i64 m), (5, .ref [7] 0 a.1.length), (6, .int .i64 n)], HS [([0], eSrc a.2), ([7], ⟨false, 5, 1, a.1.map eByte⟩)]⟩)
    (fun r n a => (.exit 0, ⟨SS [(5, .ref [7] 0 (someF r a).1.length)], HS [([7], ⟨false, 5, 1, (someF r a).1.map eByte⟩), ([0], eSrc (someF r a).2)]⟩)) ([], s) ⟨rfl, g⟩ ?_ ?_ ?_ ?_ ?_
  · simp [go_sem, eSrc]
  · intro R n a x r hn hx hd hI hR
    have e1 := next_E 26 a.2 (k + 3 * n) (by omega) hI.2
    have hv := nextF_ok 26 hI.2
    have := hR (a.1 ++ [byteOf (97 + (nextF 26 a.2).1)], (nextF 26 a.2).2) ⟨by simp [hI.1], hv.1.mono (by omega)⟩ (by simp [someF])
    generalize nextF 26 a.2 = v at *
    simp only [eSrc] at e1
    simp [go_sem, eByte, eSrc] at this
    simp [go_sem, eSrc, e1, wrap_u8, show (n : Int) < m by omega, show a.1.length + 1 ≤ 1073741824 by omega, wrap_id (n := (n : Int) + 1) (by omega), wrap_id (n := 97 + v.1) (by omega)]
    exact this
  · intro a hI; simp [go_sem, someF, eSrc, hl]
  · intro _; simp
  · have hlen := (someF_ok l ([], s) k g).2
    simp at hlen
    simp [go_sem, eSrc, bytesOf_map, show (someF l ([], s)).1.length ≤ 1099511627776 by omega]
end Go.Proofs.Ytccoeoppjcegnaa

namespace Go.Proofs.Ytccoeoppjcegnaa
open Go
set_option maxRecDepth 100000
set_option maxHeartbeats 1000000
set_option linter.unusedSimpArgs false
set_option linter.unusedVariables false
theorem l00Source_E (bs : List Int) (h : bs.length ≤ 1073741824) : E CX 59 [.sl 1 (bs.map (.int .u8))] [] = some { val := .ptr [0, 0, 0, 0] 0 0, own := [eSrc ⟨bs, 0, (bs.length : Int).tmod 1000⟩] } := by
  refine E_fin Try.f59 _ an59 rfl rfl rfl Try.func59 rfl (by kernel_rfl) ?_
  simp [go_sem, eSrc]
theorem source_ok (bs : List Int) (h : bs.length ≤ 1073741824) (hb : ∀ b ∈ bs, 0 ≤ b ∧ b < 256) : SrcOK ⟨bs, 0, (bs.length : Int).tmod 1000⟩ 0 := by
  refine ⟨hb, by simp, ?_, h⟩
  simp only
  rw [Int.tmod_eq_emod_of_nonneg (by omega)]
  omega
def updateF (s : Src) : Update × Src :=
  (⟨9 + (nextF 20 s).1, (someF (List.replicate (nextF 9 (nextF 20 s).2).1.toNat ()) ([], (nextF 9 (nextF 20 s).2).2)).1⟩, (someF (List.replicate (nextF 9 (nextF 20 s).2).1.toNat ()) ([], (nextF 9 (nextF 20 s).2).2)).2)
theorem updateF_ok {s : Src} {k : Nat} (g : SrcOK s k) : SrcOK (updateF s).2 (k + 30) ∧ 9 ≤ (updateF s).1.at_ ∧ (updateF s).1.at_ ≤ 28 ∧ (updateF s).1.data.length ≤ 8 := by
  obtain ⟨g1, a1, b1⟩ := nextF_ok 20 g
  obtain ⟨g2, a2, b2⟩ := nextF_ok 9 g1
  obtain ⟨g3, hl⟩ := someF_ok (List.replicate (nextF 9 (nextF 20 s).2).1.toNat ()) ([], (nextF 9 (nextF 20 s).2).2) _ g2
  unfold updateF
  refine ⟨g3.mono (by simp; omega), by simp only; omega, by simp only; omega, ?_⟩
  simp only
  rw [hl]; simp; omega
theorem update_E (s : Src) (k : Nat) (hk : k ≤ 700000000) (g : SrcOK s k) : E CX 140 [.ptr [0] 0 0] [([0], eSrc s)] = some { val := eUpdate (updateF s).1, io := [eSrc (updateF s).2] } := by
  refine E_fin Try.f140 _ an140 rfl rfl rfl Try.func140 rfl (by kernel_rfl) ?_
  obtain ⟨g1, a1, b1⟩ := nextF_ok 20 g
  obtain ⟨g2, a2, b2⟩ := nextF_ok 9 g1
  have e1 := next_E 20 s k (by omega) g
  have e2 := next_E 9 (nextF 20 s).2 (k + 3) (by omega) g1
  have e3 := some_E (nextF 9 (nextF 20 s).2).1.toNat (nextF 9 (nextF 20 s).2).2 (k + 3 + 3) (by omega) (by omega) g2
  rw [show (((nextF 9 (nextF 20 s).2).1.toNat : Nat) : Int) = (nextF 9 (nextF 20 s).2).1 by omega] at e3
  unfold updateF
  generalize someF (List.replicate (nextF 9 (nextF 20 s).2).1.toNat ()) ([], (nextF 9 (nextF 20 s).2).2) = y at *
  generalize nextF 9 (nextF 20 s).2 = v at *
  generalize nextF 20 s = u at *
  simp only [eSrc] at e1 e2 e3
  simp [go_sem, eSrc, eUpdate, e1, e2, e3, wrap_id (n := 9 + u.1) (by omega)]
def updatesF : List Unit → List Update × Src → List Update × Src
  | [], a => a
  | _ :: r, a => updatesF r (a.1 ++ [(updateF a.2).1], (updateF a.2).2)
theorem updatesF_ok : ∀ (l : List Unit) (a : List Update × Src) (k : Nat), SrcOK a.2 k → (∀ x ∈ a.1, 9 ≤ x.at_ ∧ x.at_ ≤ 28 ∧ x.data.length ≤ 8) →
    SrcOK (updatesF l a).2 (k + 30 * l.length) ∧ (updatesF l a).1.length = a.1.length + l.length ∧ ∀ x ∈ (updatesF l a).1, 9 ≤ x.at_ ∧ x.at_ ≤ 28 ∧ x.data.length ≤ 8 := by
  intro l
  induction l with
  | nil => intro a k g h; exact ⟨g, rfl, h⟩
  | cons u l ih =>
    intro a k g h
    obtain ⟨g1, q1⟩ := updateF_ok g
    obtain ⟨h1, h2, h3⟩ := ih (a.1 ++ [(updateF a.2).1], (updateF a.2).2) (k + 30) g1 (by
      intro x hx
      simp only [List.mem_append, List.mem_singleton] at hx
      rcases hx with hx | rfl
      · exact h x hx
      · exact q1)
    unfold updatesF
    refine ⟨h1.mono (by simp; omega), ?_, h3⟩
    rw [h2]; simp; omega
theorem updates_E (s : Src) (k : Nat) (hk : k ≤ 600000000) (g : SrcOK s k) : ∃ l : List Unit, l.length ≤ 4 ∧ E CX 60 [.ptr [0] 0 0] [([0], eSrc s)] = some { val := .ref [0, 0, 0, 0] 0 (updatesF l ([], (nextF 5 s).2)).1.length, own := [⟨false, 39, 2, (updatesF l ([], (nextF 5 s).2)).1.map eUpdate⟩], io := [eSrc (updatesF l ([], (nextF 5 s).2)).2] } := by
  obtain ⟨g1, a1, b1⟩ := nextF_ok 5 g
  have e1 := next_E 5 s k (by omega) g
  generalize nextF 5 s = u at *
  obtain ⟨v, s1⟩ := u
  simp only at g1 a1 b1
  refine ⟨List.replicate v.toNat (), by simp; omega, ?_⟩
  have hl : (List.replicate v.toNat ()).length = v.toNat := by simp
  generalize List.replicate v.toNat () = l at *
  refine E_fin Try.f60 _ an60 rfl rfl rfl Try.func60 rfl (by kernel_rfl) ?_
  simp only [eSrc] at e1
  simp [go_sem, eSrc, e1]
  refine loop_for (fun X => fin CX _ _ X = _) l (fun n (a : List Update × Src) => a.1.length = n ∧ SrcOK a.2 (k + 3 + 30 * n)) (fun n a => ⟨SS [(0, .ptr [0] 0 0), (3, .ref [5] 0 a.1.length), (4, .int .i64 (v - n))], HS [([0], eSrc a.2), ([5], ⟨false, 39, 2, a.1.map eUpdate⟩)]⟩)
    (fun r n a => (.exit 0, ⟨SS [(3, .ref [5] 0 (updatesF r a).1.length)], HS [([5], ⟨false, 39, 2, (updatesF r a).1.map eUpdate⟩), ([0], eSrc (updatesF r a).2)]⟩)) ([], s1) ⟨rfl, g1⟩ ?_ ?_ ?_ ?_ ?_
  · simp [go_sem, eSrc]
  · intro R n a x r hn hx hd hI hR
    have e2 := update_E a.2 (k + 3 + 30 * n) (by omega) hI.2
    have hv := updateF_ok hI.2
    have := hR (a.1 ++ [(updateF a.2).1], (updateF a.2).2) ⟨by simp [hI.1], hv.1.mono (by omega)⟩ (by simp [updatesF])
    generalize updateF a.2 = w at *
    simp only [eSrc, eUpdate] at e2
    simp [go_sem, eUpdate, eSrc, show v - ((n : Int) + 1) = v - n - 1 by omega] at this
    simp [go_sem, eSrc, eUpdate, e2, show (n : Int) < v by omega, show (0 : Int) < v - n by omega, show a.1.length + 1 ≤ 1073741824 by omega, wrap_id (n := v - (n : Int) - 1) (by omega)]
    exact this
  · intro a hI
    have : v - (l.length : Int) = 0 := by omega
    simp [go_sem, updatesF, eSrc, this]
  · intro _; simp
  · simp [go_sem, eSrc]
theorem updatesOf_E (bs : List Int) (h : bs.length ≤ 1073741824) (hb : ∀ b ∈ bs, 0 ≤ b ∧ b < 256) : ∃ l : List Update, E CX 13 [.sl 1 (bs.map (.int .u8))] [] = some { val := .sl 2 (l.map eUpdate) } ∧ l.length ≤ 4 ∧ ∀ x ∈ l, 9 ≤ x.at_ ∧ x.at_ ≤ 28 ∧ x.data.length ≤ 8 := by
  have e1 := l00Source_E bs h
  have g := source_ok bs h hb
  obtain ⟨l, hl, e2⟩ := updates_E _ 0 (by omega) g
  obtain ⟨g1, _, _⟩ := nextF_ok 5 g
  obtain ⟨_, h2, h3⟩ := updatesF_ok l ([], (nextF 5 ⟨bs, 0, (bs.length : Int).tmod 1000⟩).2) _ g1 (by simp)
  generalize (updatesF l ([], (nextF 5 ⟨bs, 0, (bs.length : Int).tmod 1000⟩).2)) = us at *
  obtain ⟨us, s⟩ := us
  simp only at h2 h3 e2
  refine ⟨us, ?_, by simp at h2; omega, h3⟩
  refine E_fin Try.f13 _ an13 rfl rfl rfl Try.func13 rfl (by kernel_rfl) ?_
  simp only [eSrc] at e1 e2
  rw [show ((0 : Nat) : Int) = 0 from rfl] at e1 e2
  simp [go_sem, e1, e2]
end Go.Proofs.Ytccoeoppjcegnaa

namespace Go.Proofs.Ytccoeoppjcegnaa
open Go
set_option maxRecDepth 100000
set_option maxHeartbeats 4000000
set_option linter.unusedSimpArgs false
set_option linter.unusedVariables false
theorem newDisk_E : E CX 47 [] [] = some { val := .agg [.ref [0, 0, 0, 0] 0 64, .nil], own := [⟨false, 9, 1, List.replicate 64 (.str [])⟩] } := by
  refine E_fin Try.f47 _ an47 rfl rfl rfl Try.func47 rfl (by kernel_rfl) ?_
  simp [go_sem, -List.reduceReplicate]
theorem holds_E (d : Disk) (h gen : Int) (hd : diskOK d = true) (hh : inn h 0 3 = true) : E CX 49 [eDisk d, .int .i64 h, .int .i64 gen] [] = some { val := .tuple [.bool (decide ((rdLd d h).owner = h) && decide ((rdLd d h).gen = gen) && decide (0 < gen)), .int .i64 0] } := by
  have g := diskOK_good hd
  have g1 := g.ss; have g2 := g.ps
  have e1 := codes_E d h (by omega) (by omega)
  have hk : askC d h = 0 := by simp [askC, hd, hh]
  rw [hk] at e1
  have e2 := leader_E d h hd
  generalize rdLd d h = L at *
  simp only [eDisk, eLeader] at e1 e2
  refine E_fin Try.f49 _ an49 rfl rfl rfl Try.func49 rfl (by kernel_rfl) ?_
  by_cases c1 : L.owner = h
  · have b1 : (L.owner == h) = true := by simp [c1]
    by_cases c2 : L.gen = gen
    · have b2 : (L.gen == gen) = true := by simp [c2]
      simp [go_sem, eDisk, e1, e2, b1, b2, c1, c2]
    · have b2 : (L.gen == gen) = false := by simp [c2]
      simp [go_sem, eDisk, e1, e2, b1, b2, c2]
  · have b1 : (L.owner == h) = false := by simp [c1]
    simp [go_sem, eDisk, e1, e2, b1, c1]
theorem sameDisk_self (d : Disk) (h1 : d.ss.length ≤ 1000000) (h2 : d.ps = []) : E CX 51 [eDisk d, eDisk d] [] = some { val := .bool true } := by
  obtain ⟨ss, ps⟩ := d
  simp only at h1 h2
  subst h2
  have e1 := sameTexts_E ss ss (by omega)
  simp at e1
  refine E_fin Try.f51 _ an51 rfl rfl rfl Try.func51 rfl (by kernel_rfl) ?_
  simp [go_sem, eDisk, e1]
  refine loop_for (fun X => fin CX _ _ X = _) ([] : List Unit) (fun n _ => True) (fun n (_ : Unit) => ⟨SS [(2, .ptr [2] 0 0), (3, .ptr [3] 0 0), (5, .int .i64 n)], HS [([2], ⟨true, 32, 2, [.agg [.sl 1 (ss.map .str), .sl 3 []]]⟩), ([3], ⟨true, 32, 2, [.agg [.sl 1 (ss.map .str), .sl 3 []]]⟩)]⟩) (fun _ n _ => (.exit 0, ⟨SS [], HS []⟩)) () trivial ?_ ?_ ?_ ?_ ?_
  · simp [go_sem]
  · intro R n _ x t hn; simp at hn
  · intro _ _; simp [go_sem]
  · intro _; simp
  · simp [go_sem]
theorem ldrF_nil : ldrF [] = none := by decide
theorem blF_nil : blF [] = none := by decide
theorem told_sure {r : Res} {ss : List Tx} {x : AV} {c : Int} (h : toldOwn r ⟨ss, []⟩ x c) (hs : ss.length = 64) : ∃ tl : List Io, r = { val := .tuple [.agg [.ref [0, 0, 0, 0] 0 64, .ref [1, 0, 0, 0] 0 0], x, .int .i64 c], own := [⟨false, 9, 1, ss.map .str⟩, ⟨false, 154, 3, tl.map eIo⟩] } := by
  rcases h with ⟨h, _⟩ | ⟨tl, h⟩
  · have := congrArg (fun d : Disk => d.ss.length) h
    simp only [mty, List.length_nil] at this
    omega
  · refine ⟨tl, ?_⟩
    rw [h]
    simp [hs]
theorem blks_of {ss : List Tx} {h v : Int} (hb : ∀ i : Int, 0 ≤ i ∧ i ≤ 3 → ((blF (ss.getD (1 + i).toNat [])).getD zBl).ver < v) : ∀ b ∈ blks ⟨ss, []⟩ h, b.ver < v := by
  intro b hm
  simp only [blks, List.mem_cons, List.not_mem_nil, or_false] at hm
  rcases hm with rfl | rfl | rfl | rfl
  · exact hb 0 (by omega)
  · exact hb 1 (by omega)
  · exact hb 2 (by omega)
  · exact hb 3 (by omega)
theorem releaseFn_E (b0 b1 : List Int) (h0 : ∀ b ∈ b0, 0 ≤ b ∧ b < 256) (h1 : ∀ b ∈ b1, 0 ≤ b ∧ b < 256) (top0 : b0.length ≤ top) (top1 : b1.length ≤ top) :
    E CX 8 [.sl 1 (b0.map (.int .u8)), .sl 1 (b1.map (.int .u8))] [] = some { val := .bool true } := by
  by_cases l0 : 1048576 < b0.length
  · refine E_fin Try.f8 _ an8 rfl rfl rfl Try.func8 rfl (by kernel_rfl) ?_
    simp [go_sem, show (1048576 : Int) < b0.length by omega]
  by_cases l1 : 1048576 < b1.length
  · refine E_fin Try.f8 _ an8 rfl rfl rfl Try.func8 rfl (by kernel_rfl) ?_
    simp [go_sem, show ¬ (1048576 : Int) < b0.length by omega, show (1048576 : Int) < b1.length by omega]
  obtain ⟨h, e1, ha, hb⟩ := at_E b0 0 4 h0 (by omega) (by omega) (by omega)
  obtain ⟨r, e2, hc, hd⟩ := at_E b1 0 3 h1 (by omega) (by omega) (by omega)
  obtain ⟨q, e3, he, hf⟩ := at_E b1 1 9 h1 (by omega) (by omega) (by omega)
  have hh : 0 ≤ h ∧ h ≤ 3 := by omega
  obtain ⟨o, hod⟩ : ∃ o, (h + 1 + r).tmod 4 = o := ⟨_, rfl⟩
  have ho : 0 ≤ o ∧ o ≤ 3 ∧ o ≠ h := by
    rw [← hod, Int.tmod_eq_emod_of_nonneg (by omega)]; omega
  have i1 : inn h 0 3 = true := by simp [inn]; omega
  have i2 : inn o 0 3 = true := by simp [inn]; omega
  have i3 : inn (1 + q) 1 1000000 = true := by simp [inn]; omega
  -- the first election
  have L0 : rdLd ⟨E64, []⟩ h = noL 0 := by rw [rdLd_sure, E64_get, ldrF_nil]; rfl
  have bk0 : ∀ b ∈ blks ⟨E64, []⟩ h, b.ver < (rdLd ⟨E64, []⟩ h).ver + 1 := by
    rw [L0]
    refine blks_of fun i hi => ?_
    rw [E64_get, blF_nil]
    decide
  obtain ⟨p1, p2, p3, p4⟩ := elect_alone d64_ok hh hh (gen := 1 + q) (by omega) (by rw [L0]; decide) bk0
  have ev1 := elect_E ⟨E64, []⟩ h h (1 + q) d64_ok hh (by decide) i1 i3 (by rw [L0]; decide) p1
  rw [p2] at ev1
  rw [L0] at ev1 p3 p4
  simp only [noL, Int.zero_add] at ev1 p3 p4
  -- the disk behind it
  have ht := blT_len ⟨1, 4 + h, 4 + h, 1024 * (1 + q) + h⟩
  have hbt := blF_blT p3
  have hlt := ldrF_ldrT p4
  have X2 : diskOK ⟨(E64.set (1 + h).toNat (blT ⟨1, 4 + h, 4 + h, 1024 * (1 + q) + h⟩)).set 0 (ldrT ⟨1, h, 1 + q⟩), []⟩ = true := set_ok (set_ok d64_ok (by omega)) (by rw [ldrT_len]; omega)
  have X3 : ((E64.set (1 + h).toNat (blT ⟨1, 4 + h, 4 + h, 1024 * (1 + q) + h⟩)).set 0 (ldrT ⟨1, h, 1 + q⟩)).getD 0 [] = ldrT ⟨1, h, 1 + q⟩ := by simp [E64]
  have X4 : ∀ i : Int, 0 ≤ i ∧ i ≤ 3 → ((blF (((E64.set (1 + h).toNat (blT ⟨1, 4 + h, 4 + h, 1024 * (1 + q) + h⟩)).set 0 (ldrT ⟨1, h, 1 + q⟩)).getD (1 + i).toNat [])).getD zBl).ver ≤ 1 := by
    intro i hi
    have hne : ¬ 0 = (1 + i).toNat := by omega
    by_cases c : i = h
    · subst c
      have : ((E64.set (1 + i).toNat (blT ⟨1, 4 + i, 4 + i, 1024 * (1 + q) + i⟩)).set 0 (ldrT ⟨1, i, 1 + q⟩)).getD (1 + i).toNat [] = blT ⟨1, 4 + i, 4 + i, 1024 * (1 + q) + i⟩ := by
        rw [List.getD_eq_getElem?_getD, List.getElem?_set_ne hne, List.getElem?_set_self (by rw [E64_len]; omega)]
        rfl
      rw [this, hbt]
      simp
    · have : ((E64.set (1 + h).toNat (blT ⟨1, 4 + h, 4 + h, 1024 * (1 + q) + h⟩)).set 0 (ldrT ⟨1, h, 1 + q⟩)).getD (1 + i).toNat [] = [] := by
        rw [List.getD_eq_getElem?_getD, List.getElem?_set_ne hne, List.getElem?_set_ne (by omega), ← List.getD_eq_getElem?_getD, E64_get]
      rw [this, blF_nil]
      decide
  generalize (E64.set (1 + h).toNat (blT ⟨1, 4 + h, 4 + h, 1024 * (1 + q) + h⟩)).set 0 (ldrT ⟨1, h, 1 + q⟩) = X at *
  have X1 : X.length = 64 := (diskOK_good X2).ss
  have XL : ∀ k, rdLd ⟨X, []⟩ k = ⟨1, h, 1 + q⟩ := fun k => by rw [rdLd_sure, X3, hlt]; rfl
  -- letting go
  have lc : ∀ (ss : List Tx) (k : Int), diskOK ⟨ss, []⟩ = true → inn k 0 3 = true → lcode ⟨ss, []⟩ k = 0 := by
    intro ss k h1 h2
    simp [lcode, askC, h1, h2]
  have rA1 : relA ⟨X, []⟩ o ⟨1, h, 1 + q⟩ = (⟨X, []⟩, ⟨1, h, 1 + q⟩, 9) := by
    simp [relA, relC, lc X o X2 i2, p4, XL, ho.2.2.symm]
  have rA2 : relA ⟨X, []⟩ h ⟨1, h, 1 + q⟩ = (⟨X.set 0 (ldrT (noL 2)), []⟩, noL 2, 0) := by
    simp [relA, relC, lc X h X2 i1, p4, XL, putD_sure]
  obtain ⟨r1, e4, t4⟩ := release_E ⟨X, []⟩ o ⟨1, h, 1 + q⟩ (by simp only; omega) (by simp)
  rw [rA1] at t4
  obtain ⟨tl1, rfl⟩ := told_sure t4 X1
  obtain ⟨r2, e5, t5⟩ := release_E ⟨X, []⟩ h ⟨1, h, 1 + q⟩ (by simp only; omega) (by simp)
  rw [rA2] at t5
  have Y1 : (X.set 0 (ldrT (noL 2))).length = 64 := by simp [X1]
  obtain ⟨tl2, rfl⟩ := told_sure t5 Y1
  obtain ⟨r3, e6, t6⟩ := sRelease_E ⟨X, []⟩ h ⟨1, h, 1 + q⟩ (by simp only; omega) (by simp)
  rw [rA2] at t6
  have r3e : r3 = { val := .tuple [eDisk ⟨X.set 0 (ldrT (noL 2)), []⟩, eLeader (noL 2), .int .i64 0] } := by
    rcases t6 with ⟨h, _⟩ | h
    · have := congrArg (fun d : Disk => d.ss.length) h
      simp only [mty, List.length_nil] at this
      omega
    · exact h
  subst r3e
  have Y2 : diskOK ⟨X.set 0 (ldrT (noL 2)), []⟩ = true := set_ok X2 (by rw [ldrT_len]; omega)
  have Y3 : (X.set 0 (ldrT (noL 2))).getD 0 [] = ldrT (noL 2) := by
    rw [List.getD_eq_getElem?_getD, List.getElem?_set_self (by omega)]; rfl
  have Y4 : ∀ i : Int, 0 ≤ i ∧ i ≤ 3 → ((blF ((X.set 0 (ldrT (noL 2))).getD (1 + i).toNat [])).getD zBl).ver < 3 := by
    intro i hi
    have := X4 i hi
    rw [List.getD_eq_getElem?_getD, List.getElem?_set_ne (by omega), ← List.getD_eq_getElem?_getD]
    omega
  have hl2 : ldrF (ldrT (noL 2)) = some (noL 2) := ldrF_ldrT (by decide)
  have e10 := sameDisk_self ⟨X.set 0 (ldrT (noL 2)), []⟩ (by simp only; omega) rfl
  generalize X.set 0 (ldrT (noL 2)) = Y at *
  have YL : ∀ k, rdLd ⟨Y, []⟩ k = noL 2 := fun k => by rw [rdLd_sure, Y3, hl2]; rfl
  have rA3 : relA ⟨Y, []⟩ h ⟨1, h, 1 + q⟩ = (⟨Y, []⟩, noL 2, 13) := by
    simp [relA, relC, lc Y h Y2 i1, p4, YL, noL]
  obtain ⟨r4, e7, t7⟩ := release_E ⟨Y, []⟩ h ⟨1, h, 1 + q⟩ (by simp only; omega) (by simp)
  rw [rA3] at t7
  obtain ⟨tl3, rfl⟩ := told_sure t7 Y1
  -- the second election
  obtain ⟨s1, s2, s3, s4⟩ := elect_alone Y2 (h := o) (owner := o) (gen := 5) ⟨ho.1, ho.2.1⟩ ⟨ho.1, ho.2.1⟩ (by omega) (by rw [YL]; decide) (by rw [YL]; exact blks_of Y4)
  have ev2 := elect_E ⟨Y, []⟩ o o 5 Y2 ⟨ho.1, ho.2.1⟩ (by simp) i2 (by decide) (by rw [YL]; decide) s1
  rw [s2] at ev2
  rw [YL] at ev2 s4
  simp only [noL] at ev2 s4
  have Z2 : diskOK ⟨(Y.set (1 + o).toNat (blT ⟨2 + 1, 4 + o, 4 + o, 1024 * 5 + o⟩)).set 0 (ldrT ⟨2 + 1, o, 5⟩), []⟩ = true := set_ok (set_ok Y2 (by rw [blT_len]; omega)) (by rw [ldrT_len]; omega)
  have Z3 : ((Y.set (1 + o).toNat (blT ⟨2 + 1, 4 + o, 4 + o, 1024 * 5 + o⟩)).set 0 (ldrT ⟨2 + 1, o, 5⟩)).getD 0 [] = ldrT ⟨2 + 1, o, 5⟩ := by
    rw [List.getD_eq_getElem?_getD, List.getElem?_set_self (by simp; omega)]; rfl
  generalize (Y.set (1 + o).toNat (blT ⟨2 + 1, 4 + o, 4 + o, 1024 * 5 + o⟩)).set 0 (ldrT ⟨2 + 1, o, 5⟩) = Z at *
  have ZL : rdLd ⟨Z, []⟩ o = ⟨3, o, 5⟩ := by rw [rdLd_sure, Z3, ldrF_ldrT s4]; rfl
  have e8 := holds_E ⟨Y, []⟩ h (1 + q) Y2 i1
  have e9 := holds_E ⟨Z, []⟩ o 5 Z2 i2
  rw [YL] at e8
  rw [ZL] at e9
  have hneg : decide ((-1 : Int) = h) = false := by simp; omega
  simp [noL, hneg] at e8
  simp at e9
  have e11 := newDisk_E
  have hE : E64.map AV.str = List.replicate 64 (.str []) := by simp [E64, -List.reduceReplicate]
  simp only [eDisk, eLeader, hE, List.map_nil, noL] at ev1 ev2 e4 e5 e6 e7 e8 e9 e10
  have n0 : ¬ (1048576 : Int) < b0.length := by omega
  have n1 : ¬ (1048576 : Int) < b1.length := by omega
  have hon : ¬ o = h := ho.2.2
  clear t4 t5 t6 t7 s3 p3 hbt
  refine E_fin Try.f8 _ an8 rfl rfl rfl Try.func8 rfl (by kernel_rfl) ?_
  simp [go_sem, -List.reduceReplicate, l0, l1, n0, n1, e1, e2, e3, hod, ev1, ev2, e4, e5, e6, e7, e8, e9, e10, e11, X1, Y1, hneg, show ¬ (-1 : Int) = h by omega, wrap_id (n := h + 1) (by omega), wrap_id (n := h + 1 + r) (by omega), wrap_id (n := 1 + q) (by omega), show IntKind.i64.wrap 2 = 2 by decide, show IntKind.i64.wrap 3 = 3 by decide]
end Go.Proofs.Ytccoeoppjcegnaa

namespace Go.Proofs.Ytccoeoppjcegnaa
open Go
set_option maxRecDepth 100000
theorem told_u8 : ∀ bs, Typed Try.prog 5 bs → ∃ x : Int, mkVal (tagg Try.prog 5) bs = .int .u8 x ∧ (0 ≤ x ∧ x < 256) := by
  intro bs h
  obtain ⟨x, rfl, w⟩ := typed_int Try.underlying5 h
  refine ⟨x, by rw [show tagg Try.prog 5 = false by kernel_rfl]; rfl, ?_⟩
  rw [show IntKind.u8.min = 0 from rfl, show IntKind.u8.max = 255 from rfl] at w
  omega
theorem told_Bytes : ∀ bs, Typed Try.prog 22 bs → ∃ x : List Int, mkVal (tagg Try.prog 22) bs = .sl 1 (x.map (.int .u8)) ∧ x.length ≤ top ∧ ∀ b ∈ x, 0 ≤ b ∧ b < 256 := by
  intro bs h
  obtain ⟨x, e, w, q⟩ := typed_list Try.underlying22 told_u8 h
  rw [show Try.prog.cellsOf 5 = 1 by kernel_rfl] at e
  cases e
  exact ⟨x, by rw [show tagg Try.prog 22 = false by kernel_rfl]; rfl, w, q⟩
end Go.Proofs.Ytccoeoppjcegnaa
