/- A reading of the loaded code over plain data, its soundness, and what functions answer by it (part 12; joined by program). No condition. -/
import Derived.Test.YtndgpinhbffleaaGreatKRe11
set_option linter.all false
namespace Go.Proofs.YtndgpinhbffleaaGreat
open Go
set_option maxRecDepth 100000
set_option maxHeartbeats 2000000
set_option linter.unusedSimpArgs false
set_option linter.unusedVariables false
theorem sFree_E (l : List Int) (hl : l.length ≤ 1073741824) : E CX 143 [.sl 1 (l.map (.int .i64))] [] = some { val := .int .i64 (freeI l) } := by
  unfold freeI
  refine E_fin Tryz.f143 _ an143 rfl rfl rfl Tryz.func143 rfl (by kernel_rfl) ?_
  simp [go_sem]
  refine loop_list (fun X => fin CX _ _ X = _) l (fun n _ => True) (fun n (_ : Unit) => ⟨SS [(0, .sl 1 (l.map (.int .i64))), (3, .int .i64 n)], HE⟩)
     (fun r n _ => match firstAt (fun n => decide (n = 0)) r n with
    | some k => (.ret, ⟨SS [(2, .int .i64 k)], HE⟩)
    | none => (.exit 0, ⟨SS [], HE⟩)) () trivial ?_ ?_ ?_ ?_ ?_
  · simp [go_sem]
  · intro n _ x t hn hx hd _
    have hx := hx hn
    by_cases hq : x = 0
    · simp [go_sem, firstAt, hq, hn, hx]
    · simp [go_sem, firstAt, hq, hn, hx, wrap_id (n := (n : Int) + 1) (by omega)]
  · intro _ _; simp [go_sem, firstAt]
  · intro _; simp [firstAt]
  · cases hr : firstAt (fun n => decide (n = 0)) l 0 <;> simp [go_sem, hr, idxOf]
theorem sClusters_E (t : List Int) (h : t.length ≤ 1073741824) (hs : ∀ n ∈ t, n ≤ 25) : E CX 132 [.sl 1 (t.map (.int .i64))] [] = some { val := .ref [0, 0, 0, 0] 0 (clus t).length, own := [⟨false, 3, 1, (clus t).map (.int .i64)⟩] } := by
  refine E_fin Tryz.f132 _ an132 rfl rfl rfl Tryz.func132 rfl (by kernel_rfl) ?_
  simp [go_sem]
  refine loop_for (fun X => fin CX _ _ X = _) t (fun n a => a.length ≤ n) (fun n a => ⟨SS [(0, .sl 1 (t.map (.int .i64))), (3, .ref [5] 0 a.length), (4, .int .i64 n)], HS [([5], ⟨false, 3, 1, a.map (.int .i64)⟩)]⟩)
    (fun r n a => (.exit 0, ⟨SS [(3, .ref [5] 0 (a ++ clus r).length)], HS [([5], ⟨false, 3, 1, (a ++ clus r).map (.int .i64)⟩)]⟩)) ([] : List Int) (by simp) ?_ ?_ ?_ ?_ ?_
  · simp [go_sem]
  · intro R n a x r hn hx hd hI hR
    have hx := hx hn
    have hx25 := hs x (by rw [← hx]; exact List.getElem_mem hn)
    by_cases c : 2 ≤ x
    · have := hR (a ++ [x - 2]) (by simp; omega) (by simp [clus, c])
      simp [go_sem] at this
      simp [go_sem, hn, hx, c, wrap_id (n := x - 2) (by omega), wrap_id (n := (n : Int) + 1) (by omega), show a.length + 1 ≤ 1073741824 by omega]
      exact this
    · have := hR a (by omega) (by simp [clus, c])
      simp [go_sem] at this
      simp [go_sem, hn, hx, c, wrap_id (n := (n : Int) + 1) (by omega)]
      exact this
  · intro a hI; simp [go_sem, clus]
  · intro _; simp
  · simp [go_sem]
theorem sResize_E (t : List Int) (N : Nat) (h : N ≤ 1000000) : E CX 142 [.sl 1 (t.map (.int .i64)), .int .i64 N] [] = some { val := .ref [0, 0, 0, 0] 0 (resz t N).length, own := [⟨false, 3, 1, (resz t N).map (.int .i64)⟩] } := by
  have hl : (resz t N).length = N := by simp [resz]
  have hg : ∀ n (h : n < (resz t N).length), (resz t N)[n] = t.getD n 0 := by intro n h; simp [resz]
  generalize resz t N = q at *
  refine E_fin Tryz.f142 _ an142 rfl rfl rfl Tryz.func142 rfl (by kernel_rfl) ?_
  simp [go_sem]
  refine loop_for (fun X => fin CX _ _ X = _) q (fun n a => a.length = n) (fun n a => ⟨SS [(0, .sl 1 (t.map (.int .i64))), (1, .int .i64 N), (5, .ref [7] 0 a.length), (6, .int .i64 n)], HS [([7], ⟨false, 3, 1, a.map (.int .i64)⟩)]⟩)
    (fun r n a => (.exit 0, ⟨SS [(5, .ref [7] 0 (a ++ r).length)], HS [([7], ⟨false, 3, 1, (a ++ r).map (.int .i64)⟩)]⟩)) ([] : List Int) (by simp) ?_ ?_ ?_ ?_ ?_
  · simp [go_sem]
  · intro R n a x r hn hx hd hI hR
    have hx := hx hn
    rw [hg] at hx
    have hnN : (n : Int) < N := by omega
    have := hR (a ++ [x]) (by simp; omega) (by simp)
    simp [go_sem] at this
    by_cases c : n < t.length
    · have hx' : t[n] = x := by rw [← hx, List.getD_eq_getElem?_getD, List.getElem?_eq_getElem c]; rfl
      simp [go_sem, hnN, c, hx', wrap_id (n := (n : Int) + 1) (by omega), show a.length + 1 ≤ 1073741824 by omega]
      exact this
    · have hx' : x = 0 := by rw [← hx, List.getD_eq_getElem?_getD, List.getElem?_eq_none (by omega)]; rfl
      subst hx'
      simp [go_sem, hnN, c, wrap_id (n := (n : Int) + 1) (by omega), show a.length + 1 ≤ 1073741824 by omega]
      exact this
  · intro a hI; simp [go_sem, hl]
  · intro _; simp
  · simp [go_sem]
theorem sName_E (t : Tx) (h : t.length ≤ 1099511627776) : E CX 97 [.str t] [] = some { val := .bool (snameOK t) } := by
  refine E_fin Tryz.f97 _ an97 rfl rfl rfl Tryz.func97 rfl (by kernel_rfl) ?_
  simp [go_sem]
  refine loop_list (fun X => fin CX _ _ X = _) t (fun n _ => True) (fun n (_ : Unit) => ⟨SS [(0, .str t), (3, .int .i64 n)], HE⟩)
    (fun r n _ => if r.all isLow then (.exit 0, ⟨SS [(0, .str t)], HE⟩) else (.ret, ⟨SS [(2, .bool false)], HE⟩)) () trivial ?_ ?_ ?_ ?_ ?_
  · simp [go_sem]
  · intro n _ x r hn hx hd _
    have hx := hx hn
    by_cases c1 : x.toNat < 97
    · simp [go_sem, hn, hx, c1, isLow, show ¬ 97 ≤ x.toNat by omega, show ((x.toNat : Int) < 97) by omega]
    · by_cases c2 : 122 < x.toNat
      · simp [go_sem, hn, hx, c1, c2, isLow, show ¬ x.toNat ≤ 122 by omega, show ¬ ((x.toNat : Int) < 97) by omega, show (122 < (x.toNat : Int)) by omega]
      · simp [go_sem, hn, hx, c1, c2, isLow, show 97 ≤ x.toNat by omega, show x.toNat ≤ 122 by omega, show ¬ ((x.toNat : Int) < 97) by omega, show ¬ (122 < (x.toNat : Int)) by omega, wrap_id (n := (n : Int) + 1) (by omega)]
  · intro _ _; simp [go_sem]
  · intro _; split <;> simp
  · cases ht : t.all isLow <;> simp [go_sem, ht, l01In_E, snameOK]
theorem sRefsOK_E (r : List Int) (h : r.length ≤ 1073741824) : E CX 184 [.sl 1 (r.map (.int .i64))] [] = some { val := .bool (refsOK r) } := by
  refine E_fin Tryz.f184 _ an184 rfl rfl rfl Tryz.func184 rfl (by kernel_rfl) ?_
  by_cases c0 : 4096 < r.length
  · have : refsOK r = false := by simp [refsOK]; omega
    simp [go_sem, this, show (4096 : Int) < r.length by omega]
  simp [go_sem, show ¬ (4096 : Int) < r.length by omega]
  refine loop_list (fun X => fin CX _ _ X = _) r (fun n _ => True) (fun n (_ : Unit) => ⟨SS [(0, .sl 1 (r.map (.int .i64))), (3, .int .i64 n)], HE⟩)
    (fun q n _ => if q.all (inn · 0 15) then (.exit 0, ⟨SS [(0, .sl 1 (r.map (.int .i64)))], HE⟩) else (.ret, ⟨SS [(2, .bool false)], HE⟩)) () trivial ?_ ?_ ?_ ?_ ?_
  · simp [go_sem]
  · intro n _ x q hn hx hd _
    have hx := hx hn
    cases c : inn x 0 15 <;> simp [go_sem, hn, hx, c, l01In_E, wrap_id (n := (n : Int) + 1) (by omega)]
  · intro _ _; simp [go_sem]
  · intro _; split <;> simp
  · cases ht : r.all (inn · 0 15)
    · simp [go_sem, ht, refsOK]
    · have := beq_nat r.length 24
      simp at this
      simp [go_sem, ht, refsOK, this]
theorem sTableOK_E (r : List Int) (h : r.length ≤ 1073741824) : E CX 185 [.sl 1 (r.map (.int .i64))] [] = some { val := .bool (tabOK r) } := by
  refine E_fin Tryz.f185 _ an185 rfl rfl rfl Tryz.func185 rfl (by kernel_rfl) ?_
  by_cases c0 : 4096 < r.length
  · have : tabOK r = false := by simp [tabOK]; omega
    simp [go_sem, this, show (4096 : Int) < r.length by omega]
  simp [go_sem, show ¬ (4096 : Int) < r.length by omega]
  refine loop_list (fun X => fin CX _ _ X = _) r (fun n _ => True) (fun n (_ : Unit) => ⟨SS [(0, .sl 1 (r.map (.int .i64))), (3, .int .i64 n)], HE⟩)
    (fun q n _ => if q.all (inn · 0 25) then (.exit 0, ⟨SS [(0, .sl 1 (r.map (.int .i64)))], HE⟩) else (.ret, ⟨SS [(2, .bool false)], HE⟩)) () trivial ?_ ?_ ?_ ?_ ?_
  · simp [go_sem]
  · intro n _ x q hn hx hd _
    have hx := hx hn
    cases c : inn x 0 25 <;> simp [go_sem, hn, hx, c, l01In_E, wrap_id (n := (n : Int) + 1) (by omega)]
  · intro _ _; simp [go_sem]
  · intro _; split <;> simp
  · cases ht : r.all (inn · 0 25)
    · simp [go_sem, ht, tabOK]
    · by_cases c : r.length ≤ 12
      · simp [go_sem, ht, tabOK, c, show (r.length : Int) ≤ 12 by omega]
      · simp [go_sem, ht, tabOK, c, show ¬ (r.length : Int) ≤ 12 by omega]
theorem sInt_E (n : Int) : E CX 89 [.int .i64 n] [] = some { val := .bool (isNum n) } := by
  refine E_fin Tryz.f89 _ an89 rfl rfl rfl Tryz.func89 rfl (by kernel_rfl) ?_
  simp [go_sem, l01In_E, isNum]
/-- Does an element stand ahead? -/
def twF (pre : List Int) : List Int → Bool
  | [] => false
  | x :: q => pre.contains x || twF (pre ++ [x]) q
theorem twF_nodup : ∀ (q pre : List Int), twF pre q = !decide (q.Nodup ∧ ∀ x ∈ q, x ∉ pre) := by
  intro q
  induction q with
  | nil => intro pre; simp [twF]
  | cons x q ih =>
    intro pre
    unfold twF
    rw [ih, Bool.eq_iff_iff]
    simp only [Bool.or_eq_true, List.contains_iff_mem, Bool.not_eq_true', decide_eq_false_iff_not, List.nodup_cons, List.mem_append, List.mem_cons, List.not_mem_nil, or_false, List.mem_singleton]
    constructor
    · rintro (h | h) ⟨⟨h1, h2⟩, h3⟩
      · exact h3 x (.inl rfl) h
      · refine h ⟨h2, fun y hy => ?_⟩
        rintro (h4 | rfl)
        · exact h3 y (.inr hy) h4
        · exact h1 hy
    · intro h
      by_cases hx : x ∈ pre
      · exact .inl hx
      · refine .inr fun ⟨h2, h3⟩ => h ⟨⟨fun hm => h3 x hm (.inr rfl), h2⟩, fun y hy => ?_⟩
        rcases hy with rfl | hy
        · exact hx
        · exact fun hp => h3 y hy (.inl hp)
theorem sTwice_E (t : List Int) (h : tabOK t = true) : E CX 131 [.sl 1 (t.map (.int .i64))] [] = some { val := .bool (!onceB t) } := by
  have ht := tabOK_len h
  have e1 := sClusters_E t (by omega) (fun x hx => tab_le' h x hx)
  have hcl := clus_len t
  have hb : (!onceB t) = twF [] (clus t) := by
    rw [twF_nodup]; simp [onceB]
  rw [hb]
  generalize clus t = cs at *
  refine E_fin Tryz.f131 _ an131 rfl rfl rfl Tryz.func131 rfl (by kernel_rfl) ?_
  simp [go_sem, e1]
  refine loop_list (fun X => fin CX _ _ X = _) cs (fun n _ => True) (fun n (_ : Unit) => ⟨SS [(3, .sl 1 (cs.map (.int .i64))), (4, .int .i64 n)], HE⟩)
    (fun q n _ => if twF (cs.take n) q then (.ret, ⟨SS [(2, .bool true)], HE⟩) else (.exit 0, ⟨SS [], HE⟩)) () trivial ?_ ?_ ?_ ?_ ?_
  · simp [go_sem]
  · intro n _ x q hn hx hd _
    have hx := hx hn
    have htk : cs.take (n + 1) = cs.take n ++ [x] := by rw [List.take_succ, List.getElem?_eq_getElem hn, hx]; rfl
    simp [go_sem, hn]
    refine loop_list (fun X => Back (keepSt an131 0) _ _ X) (cs.take n) (fun k _ => True) (fun k (_ : Unit) => ⟨SS [(3, .sl 1 (cs.map (.int .i64))), (4, .int .i64 n), (5, .int .i64 k)], HE⟩)
      (fun p k _ => if p.contains x then (.ret, ⟨SS [(2, .bool true)], HE⟩) else (.exit 2, ⟨SS [(3, .sl 1 (cs.map (.int .i64))), (4, .int .i64 n)], HE⟩)) () trivial ?_ ?_ ?_ ?_ ?_
    · simp [go_sem]
    · intro k _ y p hk hy hd' _
      have hk' : k < n := by rw [List.length_take] at hk; omega
      have hkc : k < cs.length := by omega
      have hy := hy hk
      rw [List.getElem_take] at hy
      by_cases c : x = y
      · simp [go_sem, hn, hx, hk', hkc, hy, c]
      · simp [go_sem, hn, hx, hk', hkc, hy, c, wrap_id (n := (k : Int) + 1) (by omega)]
    · intro _ _
      have : min n cs.length = n := by omega
      simp [go_sem, this]
    · intro _; split <;> simp
    · by_cases hm : x ∈ cs.take n
      · simp [go_sem, twF, hm]
      · simp [go_sem, twF, hm, htk, wrap_id (n := (n : Int) + 1) (by omega)]
  · intro _ _; simp [go_sem, twF]
  · intro _; split <;> simp
  · cases hc : twF [] cs <;> simp [go_sem, hc]
end Go.Proofs.YtndgpinhbffleaaGreat


namespace Go.Proofs.YtndgpinhbffleaaGreat
open Go
set_option maxRecDepth 100000
set_option maxHeartbeats 2000000
set_option linter.unusedSimpArgs false
set_option linter.unusedVariables false
theorem sCount_E (m : Img) (hs : m.snaps.length ≤ 1000) (ht : ∀ t ∈ tabs m, tabOK t = true) : E CX 64 [eImg m] [] = some { val := .ref [0, 0, 0, 0] 0 24, own := [⟨false, 3, 1, (cnt (tabs m)).map (.int .i64)⟩] } := by
  have hc := counts_cnt (tabs m) ht
  have htb : tabs m = m.tab :: m.snaps.map Snp.tab := rfl
  rw [← hc]
  obtain ⟨r, t, s, d⟩ := m
  simp only at hs htb
  refine E_fin Tryz.f64 _ an64 rfl rfl rfl Tryz.func64 rfl (by kernel_rfl) ?_
  simp [go_sem, eImg, -List.reduceReplicate]
  refine loop_for (fun X => fin CX _ _ X = _) s (fun n a => a.length = n + 1) (fun n a => ⟨SS [(1, .ptr [1] 0 0), (3, .ref [9] 0 24), (4, .ref [12] 0 a.length), (5, .int .i64 n)], HS [([1], ⟨true, 26, 4, [eImg ⟨r, t, s, d⟩]⟩), ([9], ⟨false, 3, 1, List.replicate 24 (.int .i64 0)⟩), ([12], ⟨false, 23, 1, a.map eTab⟩)]⟩)
    (fun q n a => (.exit 0, ⟨SS [(3, .ref [9] 0 24), (4, .ref [12] 0 (a ++ q.map Snp.tab).length)], HS [([9], ⟨false, 3, 1, List.replicate 24 (.int .i64 0)⟩), ([12], ⟨false, 23, 1, (a ++ q.map Snp.tab).map eTab⟩)]⟩)) [t] rfl ?_ ?_ ?_ ?_ ?_
  · simp [go_sem, eImg, eTab, -List.reduceReplicate]
  · intro R n a x q hn hx hd hI hR
    have hx := hx hn
    have := hR (a ++ [x.tab]) (by simp; omega) (by simp)
    simp [go_sem, eImg, eTab, -List.reduceReplicate] at this
    simp [go_sem, hn, hx, eSnp, eImg, eTab, -List.reduceReplicate, wrap_id (n := (n : Int) + 1) (by omega), show a.length + 1 ≤ 1073741824 by omega]
    exact this
  · intro a hI; simp [go_sem, eImg, -List.reduceReplicate]
  · intro _; simp
  have hTl : ([t] ++ s.map Snp.tab) = tabs ⟨r, t, s, d⟩ := rfl
  rw [hTl]
  have hT : (tabs ⟨r, t, s, d⟩).length ≤ 1001 := by simp [tabs]; omega
  generalize tabs ⟨r, t, s, d⟩ = T at *
  simp [go_sem, -List.reduceReplicate]
  refine loop_for (fun X => fin CX _ _ X = _) T (fun n (a : List Int) => a.length = 24 ∧ ∀ x ∈ a, 0 ≤ x ∧ x ≤ 100 * (n : Int)) (fun n a => ⟨SS [(3, .ref [9] 0 24), (4, .ref [12] 0 T.length), (6, .int .i64 n)], HS [([9], ⟨false, 3, 1, a.map (.int .i64)⟩), ([12], ⟨false, 23, 1, T.map eTab⟩)]⟩)
    (fun r n a => (.exit 2, ⟨SS [(3, .ref [9] 0 24)], HS [([9], ⟨false, 3, 1, (r.foldl (fun l t => (clus t).foldl bump l) a).map (.int .i64)⟩)]⟩)) (List.replicate 24 (0 : Int)) ?_ ?_ ?_ ?_ ?_ ?_
  · refine ⟨by simp, fun x hx => ?_⟩
    rw [List.mem_replicate] at hx
    omega
  · simp [go_sem, -List.reduceReplicate]
  · rintro R n a t r hn hx hd ⟨hI1, hI2⟩ hR
    have hx := hx hn
    have htm := ht t (by rw [← hx]; exact List.getElem_mem hn)
    have hlen := tabOK_len htm
    have e2 := sClusters_E t (by omega) (fun x hx => tab_le' htm x hx)
    have hcl := clus_len t
    have hcm : ∀ c ∈ clus t, 0 ≤ c ∧ c < 24 := fun c hc => tab_clus htm hc
    simp [go_sem, hn, hx, eTab, e2]
    generalize hcs : clus t = cs at e2 hcl hcm ⊢
    refine loop_for (fun X => Back (keepSt an64 2) _ R X) cs (fun k (b : List Int) => b.length = 24 ∧ ∀ x ∈ b, 0 ≤ x ∧ x ≤ 100 * (n : Int) + (k : Int)) (fun k b => ⟨SS [(3, .ref [9] 0 24), (4, .ref [12] 0 T.length), (6, .int .i64 n), (7, .sl 1 (cs.map (.int .i64))), (8, .int .i64 k)], HS [([9], ⟨false, 3, 1, b.map (.int .i64)⟩), ([12], ⟨false, 23, 1, T.map eTab⟩)]⟩)
      (fun r k b => (.exit 4, ⟨SS [(3, .ref [9] 0 24), (4, .ref [12] 0 T.length), (6, .int .i64 n)], HS [([9], ⟨false, 3, 1, (r.foldl bump b).map (.int .i64)⟩), ([12], ⟨false, 23, 1, T.map eTab⟩)]⟩)) a ⟨hI1, fun x hx => by have := hI2 x hx; omega⟩ ?_ ?_ ?_ ?_ ?_
    · simp [go_sem, eTab]
    · rintro R' k b c r' hk hy hd' ⟨hJ1, hJ2⟩ hR'
      have hy := hy hk
      have hc2 := hcm c (by rw [← hy]; exact List.getElem_mem hk)
      have := hR' (bump b c) ⟨by rw [bump_len]; exact hJ1, fun x hx => by have := bump_bd (c := c) hJ2 (by omega) x hx; omega⟩ (by simp)
      simp [go_sem] at this
      have hlt : c.toNat < b.length := by omega
      obtain ⟨v, gv⟩ : ∃ v, b[c.toNat] = v := ⟨_, rfl⟩
      have hv := hJ2 v (by rw [← gv]; exact List.getElem_mem hlt)
      have hb : bump b c = b.set c.toNat (v + 1) := by unfold bump; rw [List.getD_eq_getElem?_getD, List.getElem?_eq_getElem hlt, gv]; rfl
      rw [hb] at this
      simp [go_sem, hk, hy, hc2.1, hJ1, show c.toNat < 24 by omega, gv, wrap_id (n := v + 1) (by omega), wrap_id (n := (k : Int) + 1) (by omega)]
      simp at this
      exact this
    · intro b hJ; simp [go_sem]
    · intro _; simp
    · have := hR (cs.foldl bump a) ⟨by rw [bumps_len]; exact hI1, ?_⟩ (by simp [hcs])
      · simp [go_sem] at this
        simp [go_sem, wrap_id (n := (n : Int) + 1) (by omega)]
        exact this
      · intro x hx
        have := bumps_bd cs a _ hI2 (by omega) x hx
        omega
  · intro a hI; simp [go_sem]
  · intro _; simp
  · simp [go_sem]
/-- Are snapshots right, and their names not there ahead? -/
def okF (pre : List Tx) : List Snp → Bool
  | [] => true
  | x :: q => snameOK x.name && tabOK x.tab && !pre.contains x.name && okF (pre ++ [x.name]) q
theorem okF_eq : ∀ (q : List Snp) (pre : List Tx), okF pre q = true ↔ (∀ x ∈ q, snameOK x.name = true ∧ tabOK x.tab = true ∧ x.name ∉ pre) ∧ (q.map Snp.name).Nodup := by
  intro q
  induction q with
  | nil => intro pre; simp [okF]
  | cons x q ih =>
    intro pre
    unfold okF
    simp only [Bool.and_eq_true, Bool.not_eq_true', ih, List.map_cons, List.nodup_cons, List.mem_cons, forall_eq_or_imp, List.mem_append, List.mem_singleton]
    constructor
    · rintro ⟨⟨⟨h1, h2⟩, h3⟩, h4, h5⟩
      have h3' : x.name ∉ pre := by
        intro h; rw [← List.contains_iff_mem] at h; rw [h] at h3; cases h3
      refine ⟨⟨⟨h1, h2, h3'⟩, fun y hy => ?_⟩, ?_, h5⟩
      · obtain ⟨a, b, c⟩ := h4 y hy
        exact ⟨a, b, fun h => c (.inl h)⟩
      · intro hm
        obtain ⟨y, hy, hyn⟩ := List.mem_map.1 hm
        exact (h4 y hy).2.2 (.inr (by simpa using hyn))
    · rintro ⟨⟨⟨h1, h2, h3⟩, h4⟩, h5, h6⟩
      refine ⟨⟨⟨h1, h2⟩, ?_⟩, fun y hy => ?_, h6⟩
      · cases hc : pre.contains x.name
        · rfl
        · exact absurd (List.contains_iff_mem.1 hc) h3
      · obtain ⟨a, b, c⟩ := h4 y hy
        refine ⟨a, b, ?_⟩
        rintro (h | h)
        · exact c h
        · exact h5 (List.mem_map.2 ⟨y, hy, by simpa using h⟩)
def formB (m : Img) : Bool := refsOK m.refs && tabOK m.tab && decide (m.snaps.length ≤ 3) && decide (m.data.length = 24) && okF [] m.snaps && m.data.all isNum
theorem nearOK_form (m : Img) : nearOK m = (formB m && onceB m.tab && m.snaps.all fun s => onceB s.tab) := by
  unfold nearOK formB snamesOK tabs
  rw [Bool.eq_iff_iff]
  simp only [Bool.and_eq_true, List.all_eq_true, decide_eq_true_eq, okF_eq, List.mem_cons, forall_eq_or_imp, List.mem_map, List.length_map, List.not_mem_nil, not_false_eq_true, and_true, forall_exists_index, and_imp, forall_apply_eq_imp_iff₂]
  constructor
  · rintro ⟨⟨⟨⟨h1, ⟨h2, h3⟩, h4⟩, ⟨h5, h6⟩, h7⟩, h8⟩, h9⟩
    exact ⟨⟨⟨⟨⟨⟨⟨h1, h5⟩, h2⟩, h8⟩, fun x hx => ⟨h3 x hx, (h7 x hx).1⟩, h4⟩, h9⟩, h6⟩, fun x hx => (h7 x hx).2⟩
  · rintro ⟨⟨⟨⟨⟨⟨⟨h1, h5⟩, h2⟩, h8⟩, h3, h4⟩, h9⟩, h6⟩, h7⟩
    exact ⟨⟨⟨⟨h1, ⟨h2, fun x hx => (h3 x hx).1⟩, h4⟩, ⟨h5, h6⟩, fun x hx => ⟨(h3 x hx).2, h7 x hx⟩⟩, h8⟩, h9⟩
theorem sForm_E (m : Img) (B : ImgB m) : E CX 130 [eImg m] [] = some { val := .bool (formB m) } := by
  have e1 := sRefsOK_E m.refs B.refs
  have e2 := sTableOK_E m.tab B.tab
  have hnm := B.names
  have htb := B.tabs
  have hBd := B.data
  obtain ⟨r, t, s, d⟩ := m
  simp only at e1 e2 hnm htb hBd
  unfold formB
  simp only
  refine E_fin Tryz.f130 _ an130 rfl rfl rfl Tryz.func130 rfl (by kernel_rfl) ?_
  cases c1 : refsOK r
  · rw [c1] at e1; simp [go_sem, eImg, e1]
  rw [c1] at e1
  cases c2 : tabOK t
  · rw [c2] at e2; simp [go_sem, eImg, e1, e2]
  rw [c2] at e2
  by_cases c3 : s.length ≤ 3
  · by_cases c4 : d.length = 24
    · simp [go_sem, eImg, e1, e2, c3, c4, show ¬ (3 : Int) < s.length by omega]
      refine loop_list (fun X => fin CX _ _ X = _) s (fun n _ => True) (fun n (_ : Unit) => ⟨SS [(1, .ptr [1] 0 0), (3, .int .i64 n)], HS [([1], ⟨true, 26, 4, [eImg ⟨r, t, s, d⟩]⟩)]⟩)
        (fun q n _ => if okF ((s.take n).map Snp.name) q then (.exit 0, ⟨SS [(1, .ptr [1] 0 0)], HS [([1], ⟨true, 26, 4, [eImg ⟨r, t, s, d⟩]⟩)]⟩) else (.ret, ⟨SS [(2, .bool false)], HE⟩)) () trivial ?_ ?_ ?_ ?_ ?_
      · simp [go_sem, eImg]
      · intro n _ x q hn hx hd _
        have hx := hx hn
        have hm : x ∈ s := by rw [← hx]; exact List.getElem_mem hn
        have e3 := sName_E x.name (hnm x hm)
        have e4 := sTableOK_E x.tab (htb x hm)
        have htk : (s.take (n + 1)).map Snp.name = (s.take n).map Snp.name ++ [x.name] := by rw [List.take_succ, List.getElem?_eq_getElem hn, hx]; simp
        cases c5 : snameOK x.name
        · rw [c5] at e3; simp [go_sem, eImg, eSnp, hn, hx, e3, okF, c5]
        rw [c5] at e3
        cases c6 : tabOK x.tab
        · rw [c6] at e4; simp [go_sem, eImg, eSnp, hn, hx, e3, e4, okF, c5, c6]
        rw [c6] at e4
        simp [go_sem, eImg, eSnp, hn, hx, e3, e4]
        refine loop_list (fun X => Back (keepSt an130 0) _ _ X) (s.take n) (fun k _ => True) (fun k (_ : Unit) => ⟨SS [(1, .ptr [1] 0 0), (3, .int .i64 n), (4, .int .i64 k)], HS [([1], ⟨true, 26, 4, [eImg ⟨r, t, s, d⟩]⟩)]⟩)
          (fun p k _ => if (p.map Snp.name).contains x.name then (.ret, ⟨SS [(2, .bool false)], HE⟩) else (.exit 2, ⟨SS [(1, .ptr [1] 0 0), (3, .int .i64 n)], HS [([1], ⟨true, 26, 4, [eImg ⟨r, t, s, d⟩]⟩)]⟩)) () trivial ?_ ?_ ?_ ?_ ?_
        · simp [go_sem, eImg]
        · intro k _ y p hk hy hd' _
          have hk' : k < n := by rw [List.length_take] at hk; omega
          have hkc : k < s.length := by omega
          have hy := hy hk
          rw [List.getElem_take] at hy
          by_cases c : x.name = y.name
          · simp [go_sem, eImg, eSnp, hn, hx, hk', hkc, hy, c]
          · simp [go_sem, eImg, eSnp, hn, hx, hk', hkc, hy, c, show ¬ y.name = x.name from fun h => c h.symm, wrap_id (n := (k : Int) + 1) (by omega)]
        · intro _ _
          have : min n s.length = n := by omega
          simp [go_sem, eImg, this]
        · intro _; split <;> simp
        · by_cases hm : x.name ∈ (s.take n).map Snp.name
          · have h1 : ((s.take n).map Snp.name).contains x.name = true := List.contains_iff_mem.2 hm
            rw [h1]
            have hm2 := hm
            rw [List.map_take] at hm2
            simp [go_sem, eImg, okF, hm2, c5, c6]
          · have h1 : ((s.take n).map Snp.name).contains x.name = false := by
              cases hc : ((s.take n).map Snp.name).contains x.name
              · rfl
              · exact absurd (List.contains_iff_mem.1 hc) hm
            rw [h1]
            have hm2 := hm
            have htk2 := htk
            rw [List.map_take] at hm2
            rw [List.map_take, List.map_take] at htk2
            simp [go_sem, eImg, okF, hm2, htk2, c5, c6, wrap_id (n := (n : Int) + 1) (by omega)]
      · intro _ _; simp [go_sem, eImg, okF]
      · intro _; split <;> simp
      cases c5 : okF [] s
      · simp [go_sem, c5]
      · simp [go_sem, eImg, c5]
        refine loop_list (fun X => fin CX _ _ X = _) d (fun n _ => True) (fun n (_ : Unit) => ⟨SS [(1, .ptr [1] 0 0), (5, .int .i64 n)], HS [([1], ⟨true, 26, 4, [eImg ⟨r, t, s, d⟩]⟩)]⟩)
          (fun q n _ => if q.all isNum then (.exit 4, ⟨SS [], HE⟩) else (.ret, ⟨SS [(2, .bool false)], HE⟩)) () trivial ?_ ?_ ?_ ?_ ?_
        · simp [go_sem, eImg]
        · intro n _ x q hn hx hd _
          have hx := hx hn
          cases c : isNum x <;> simp [go_sem, eImg, hn, hx, c, sInt_E, wrap_id (n := (n : Int) + 1) (by omega)]
        · intro _ _; simp [go_sem, eImg]
        · intro _; split <;> simp
        · cases c6 : d.all isNum <;> simp [go_sem, c6]
    · simp [go_sem, eImg, e1, e2, c3, c4, show ¬ (3 : Int) < s.length by omega, show ¬ (d.length : Int) = 24 by omega]
  · simp [go_sem, eImg, e1, e2, c3, show (3 : Int) < s.length by omega]
end Go.Proofs.YtndgpinhbffleaaGreat


namespace Go.Proofs.YtndgpinhbffleaaGreat
open Go
set_option maxRecDepth 100000
set_option maxHeartbeats 2000000
set_option linter.unusedSimpArgs false
set_option linter.unusedVariables false
theorem formB_tab {m : Img} (h : formB m = true) : refsOK m.refs = true ∧ tabOK m.tab = true ∧ m.snaps.length ≤ 3 ∧ m.data.length = 24 ∧ ∀ s ∈ m.snaps, tabOK s.tab = true := by
  unfold formB at h
  simp only [Bool.and_eq_true, decide_eq_true_eq, okF_eq] at h
  obtain ⟨⟨⟨⟨⟨h1, h2⟩, h3⟩, h4⟩, h5, _⟩, _⟩ := h
  exact ⟨h1, h2, h3, h4, fun s hs => (h5 s hs).2.1⟩
theorem sForm12_E (m : Img) (B : ImgB m) : E CX 62 [eImg m] [] = some { val := .bool (nearOK m) } := by
  have e1 := sForm_E m B
  rw [nearOK_form]
  cases c1 : formB m
  · rw [c1] at e1
    simp only [eImg] at e1
    refine E_fin Tryz.f62 _ an62 rfl rfl rfl Tryz.func62 rfl (by kernel_rfl) ?_
    simp [go_sem, eImg, e1]
  rw [c1] at e1
  obtain ⟨_, h2, h3, _, h5⟩ := formB_tab c1
  have e2 := sTwice_E m.tab h2
  obtain ⟨r, t, s, d⟩ := m
  simp only [eImg] at e1 e2 h3 h5
  refine E_fin Tryz.f62 _ an62 rfl rfl rfl Tryz.func62 rfl (by kernel_rfl) ?_
  simp only
  cases c2 : onceB t
  · rw [c2] at e2; simp at e2
    simp [go_sem, eImg, e1, e2]
  rw [c2] at e2; simp at e2
  simp [go_sem, eImg, e1, e2]
  refine loop_list (fun X => fin CX _ _ X = _) s (fun n _ => True) (fun n (_ : Unit) => ⟨SS [(1, .ptr [1] 0 0), (3, .int .i64 n)], HS [([1], ⟨true, 26, 4, [eImg ⟨r, t, s, d⟩]⟩)]⟩)
    (fun q n _ => if q.all (fun s => onceB s.tab) then (.exit 0, ⟨SS [], HE⟩) else (.ret, ⟨SS [(2, .bool false)], HE⟩)) () trivial ?_ ?_ ?_ ?_ ?_
  · simp [go_sem, eImg]
  · intro n _ x q hn hx hd _
    have hx := hx hn
    have e3 := sTwice_E x.tab (h5 x (by rw [← hx]; exact List.getElem_mem hn))
    cases c : onceB x.tab
    · rw [c] at e3; simp at e3
      simp [go_sem, eImg, eSnp, hn, hx, c, e3]
    · rw [c] at e3; simp at e3
      simp [go_sem, eImg, eSnp, hn, hx, c, e3, wrap_id (n := (n : Int) + 1) (by omega)]
  · intro _ _; simp [go_sem, eImg]
  · intro _; split <;> simp
  · cases c6 : s.all (fun s => onceB s.tab) <;> simp [go_sem, c6]
def okR : List Int → List Int → List Int → Bool
  | n :: ns, r :: rs, d :: ds => decide (n = r) && (!decide (n = 0) || decide (d = 0)) && okR ns rs ds
  | _, _, _ => true
theorem okR_eq : ∀ (n r d : List Int), n.length = r.length → d.length = r.length → okR n r d = (decide (r = n) && restL d r) := by
  intro n
  induction n with
  | nil => intro r d h1 h2; cases r with
    | nil => simp [okR, restL]
    | cons y r => simp at h1
  | cons x n ih =>
    intro r d h1 h2
    cases r with
    | nil => simp at h1
    | cons y r =>
      cases d with
      | nil => simp at h2
      | cons z d =>
        simp only [okR, restL]
        rw [ih r d (by simpa using h1) (by simpa using h2)]
        by_cases c : x = y
        · subst c
          simp only [List.cons.injEq, true_and, decide_true, Bool.true_and]
          rw [Bool.eq_iff_iff]
          simp only [Bool.and_eq_true]
          constructor
          · rintro ⟨a, b, c⟩; exact ⟨b, a, c⟩
          · rintro ⟨b, a, c⟩; exact ⟨a, b, c⟩
        · have : ¬ y = x := fun h => c h.symm
          simp [c, this]
theorem sImageOK_E (m : Img) (B : ImgB m) : E CX 85 [eImg m] [] = some { val := .bool (imgOK m) } := by
  have e1 := sForm_E m B
  have hi : imgOK m = (nearOK m && (decide (m.refs = cnt (tabs m)) && restOK m)) := by
    unfold imgOK; rw [Bool.and_assoc]
  rw [hi, nearOK_form]
  cases c1 : formB m
  · rw [c1] at e1
    simp only [eImg] at e1
    refine E_fin Tryz.f85 _ an85 rfl rfl rfl Tryz.func85 rfl (by kernel_rfl) ?_
    simp [go_sem, eImg, e1]
  rw [c1] at e1
  obtain ⟨h1, h2, h3, h4, h5⟩ := formB_tab c1
  have h24 : m.refs.length = 24 := by simp [refsOK] at h1; exact h1.1
  have e2 := sTwice_E m.tab h2
  have e4 := sCount_E m (by omega) (fun t ht => by
    rcases List.mem_cons.1 ht with rfl | ht
    · exact h2
    · obtain ⟨x, hx, rfl⟩ := List.mem_map.1 ht; exact h5 x hx)
  have hr : (decide (m.refs = cnt (tabs m)) && restOK m) = okR (cnt (tabs m)) m.refs m.data := by
    rw [okR_eq _ _ _ (by rw [cnt_len]; exact h24.symm) (by omega)]
    unfold restOK
    rw [restL_range _ _ (by omega), h4]
  rw [hr]
  have hC : (cnt (tabs m)).length = 24 := cnt_len _
  generalize cnt (tabs m) = C at *
  obtain ⟨r, t, s, d⟩ := m
  simp only [eImg] at e1 e2 e4 h3 h4 h5 h24
  refine E_fin Tryz.f85 _ an85 rfl rfl rfl Tryz.func85 rfl (by kernel_rfl) ?_
  simp only
  cases c2 : onceB t
  · rw [c2] at e2; simp at e2
    simp [go_sem, eImg, e1, e2]
  rw [c2] at e2; simp at e2
  simp [go_sem, eImg, e1, e2]
  refine loop_list (fun X => fin CX _ _ X = _) s (fun n _ => True) (fun n (_ : Unit) => ⟨SS [(1, .ptr [1] 0 0), (3, .int .i64 n)], HS [([1], ⟨true, 26, 4, [eImg ⟨r, t, s, d⟩]⟩)]⟩)
    (fun q n _ => if q.all (fun s => onceB s.tab) then (.exit 0, ⟨SS [(1, .ptr [1] 0 0)], HS [([1], ⟨true, 26, 4, [eImg ⟨r, t, s, d⟩]⟩)]⟩) else (.ret, ⟨SS [(2, .bool false)], HE⟩)) () trivial ?_ ?_ ?_ ?_ ?_
  · simp [go_sem, eImg]
  · intro n _ x q hn hx hd _
    have hx := hx hn
    have e3 := sTwice_E x.tab (h5 x (by rw [← hx]; exact List.getElem_mem hn))
    cases c : onceB x.tab
    · rw [c] at e3; simp at e3
      simp [go_sem, eImg, eSnp, hn, hx, c, e3]
    · rw [c] at e3; simp at e3
      simp [go_sem, eImg, eSnp, hn, hx, c, e3, wrap_id (n := (n : Int) + 1) (by omega)]
  · intro _ _; simp [go_sem, eImg]
  · intro _; split <;> simp
  cases c6 : s.all (fun s => onceB s.tab)
  · simp [go_sem, c6]
  simp [go_sem, eImg, c6, e4, hC]
  refine loop_list (fun X => fin CX _ _ X = _) C (fun n _ => True) (fun n (_ : Unit) => ⟨SS [(1, .ptr [1] 0 0), (4, .sl 1 (C.map (.int .i64))), (5, .int .i64 n)], HS [([1], ⟨true, 26, 4, [eImg ⟨r, t, s, d⟩]⟩)]⟩)
    (fun q n _ => if okR q (r.drop n) (d.drop n) then (.exit 2, ⟨SS [], HE⟩) else (.ret, ⟨SS [(2, .bool false)], HE⟩)) () trivial ?_ ?_ ?_ ?_ ?_
  · simp [go_sem, eImg]
  · intro n _ x q hn hx hd _
    have hx := hx hn
    have hnr : n < r.length := by omega
    have hnd : n < d.length := by omega
    have h24i : (n : Int) < 24 := by omega
    have h24n : n < 24 := by omega
    obtain ⟨y, gy⟩ : ∃ y, r[n] = y := ⟨_, rfl⟩
    obtain ⟨z, gz⟩ : ∃ z, d[n] = z := ⟨_, rfl⟩
    have hb : r.drop n = y :: r.drop (n + 1) := by rw [← gy]; exact List.drop_eq_getElem_cons hnr
    have hb2 : d.drop n = z :: d.drop (n + 1) := by rw [← gz]; exact List.drop_eq_getElem_cons hnd
    rw [hb, hb2]
    by_cases k0 : x = y
    · by_cases k1 : x = 0
      · have k3 : y = 0 := by omega
        by_cases k2 : z = 0
        · simp [go_sem, eImg, hn, hnr, hnd, h24i, h24n, hC, h24, h4, hx, gy, gz, k0, k1, k2, k3, okR, wrap_id (n := (n : Int) + 1) (by omega)]
        · simp [go_sem, eImg, hn, hnr, hnd, h24i, h24n, hC, h24, h4, hx, gy, gz, k0, k1, k2, k3, okR]
      · have k3 : ¬ y = 0 := by omega
        simp [go_sem, eImg, hn, hnr, hnd, h24i, h24n, hC, h24, h4, hx, gy, gz, k0, k1, k3, okR, wrap_id (n := (n : Int) + 1) (by omega)]
    · simp [go_sem, eImg, hn, hnr, hnd, h24i, h24n, hC, h24, h4, hx, gy, gz, k0, okR]
  · intro _ _; simp [go_sem, eImg, okR, hC]
  · intro _; split <;> simp
  · cases c7 : okR C r d <;> simp [go_sem, c7]
theorem sOwn_E (m : Img) (B : ImgB m) : E CX 63 [eImg m] [] = some { val := oImg m, own := oRows m } := by
  have h1 := B.refs; have h2 := B.tab; have h3 := B.data; have h4 := B.snaps; have h5 := B.tabs
  obtain ⟨r, t, s, d⟩ := m
  simp only at h1 h2 h3 h4 h5
  refine E_fin Tryz.f63 _ an63 rfl rfl rfl Tryz.func63 rfl (by kernel_rfl) ?_
  simp [go_sem, eImg, h1, h2, h3]
  refine loop_for (fun X => fin CX _ _ X = _) s (fun n a => a.length = n) (fun n a => ⟨SS [(1, .ptr [1] 0 0), (2, .ptr [2] 0 0), (3, .ptr [3] 0 0), (4, .int .i64 n)], HS [([1], ⟨true, 26, 4, [eImg ⟨r, t, s, d⟩]⟩), ([2], ⟨true, 26, 4, [.agg [.nil, .nil, .nil, .nil]]⟩), ([3], ⟨true, 26, 4, [.agg [.ref [5] 0 r.length, .ref [9] 0 t.length, .ref [13] 0 a.length, .ref [14] 0 d.length]]⟩), ([5], rI r), ([9], rI t), ([13], rSn a), ([14], rI d)]⟩)
    (fun q n a => (.exit 0, ⟨SS [(2, .ptr [2] 0 0), (3, .ptr [3] 0 0)], HS [([2], ⟨true, 26, 4, [.agg [.nil, .nil, .nil, .nil]]⟩), ([3], ⟨true, 26, 4, [.agg [.ref [5] 0 r.length, .ref [9] 0 t.length, .ref [13] 0 (a ++ q).length, .ref [14] 0 d.length]]⟩), ([5], rI r), ([9], rI t), ([13], rSn (a ++ q)), ([14], rI d)]⟩)) ([] : List Snp) rfl ?_ ?_ ?_ ?_ ?_
  · simp [go_sem, rI, rSn, eImg]
  · intro R n a x q hn hx hd hI hR
    have hx := hx hn
    have hxt := h5 x (by rw [← hx]; exact List.getElem_mem hn)
    have := hR (a ++ [x]) (by simp; omega) (by simp)
    simp [go_sem, rI, rSn, eSnp, eImg] at this
    simp [go_sem, rI, rSn, hn, hx, eSnp, eImg, hxt, wrap_id (n := (n : Int) + 1) (by omega), show a.length + 1 ≤ 1073741824 by omega]
    exact this
  · intro a hI
    simp [go_sem, rI, rSn, eImg]
  · intro _; simp
  · simp [go_sem, rI, rSn, oImg, oRows]
theorem sNew_E (n : Nat) (h : n ≤ 1000) : E CX 135 [.int .i64 n] [] = some { val := oImg (newI n), own := oRows (newI n) } := by
  refine E_fin Tryz.f135 _ an135 rfl rfl rfl Tryz.func135 rfl (by kernel_rfl) ?_
  simp [go_sem, oImg, oRows, newI, rI, rSn, -List.reduceReplicate, show 8 * (n : Int) ≤ 140737488355328 by omega, show (n : Int) < 9223372036854775808 by omega, show 8 * n ≤ 140737488355328 by omega]
theorem sFind_E (m : Img) (v : Tx) (hl : m.snaps.length ≤ 1073741824) : E CX 145 [eImg m, .str v] [] = some { val := .int .i64 (findA m v) } := by
  unfold findA
  obtain ⟨r, t, s, d⟩ := m
  simp only at hl ⊢
  refine E_fin Tryz.f145 _ an145 rfl rfl rfl Tryz.func145 rfl (by kernel_rfl) ?_
  simp [go_sem, eImg]
  refine loop_list (fun X => fin CX _ _ X = _) s (fun n _ => True) (fun n (_ : Unit) => ⟨SS [(1, .str v), (2, .ptr [2] 0 0), (5, .int .i64 n)], HS [([2], ⟨true, 26, 4, [eImg ⟨r, t, s, d⟩]⟩)]⟩)
     (fun r n _ => match firstAt (fun n => decide (n.name = v)) r n with
    | some k => (.ret, ⟨SS [(4, .int .i64 k)], HE⟩)
    | none => (.exit 0, ⟨SS [], HE⟩)) () trivial ?_ ?_ ?_ ?_ ?_
  · simp [go_sem, eImg]
  · intro n _ x t hn hx hd _
    have hx := hx hn
    by_cases hq : x.name = v
    · simp [go_sem, eImg, eSnp, firstAt, hq, hn, hx]
    · simp [go_sem, eImg, eSnp, firstAt, hq, hn, hx, wrap_id (n := (n : Int) + 1) (by omega)]
  · intro _ _; simp [go_sem, eImg, firstAt]
  · intro _; simp [firstAt]
  · cases hr : firstAt (fun n => decide (n.name = v)) s 0 <;> simp [go_sem, hr, idxOf]
/-! What is lent. -/
def lImg (r t : List Int) (s : List Snp) (d : List Int) : AV := .agg [.ref [0, 0] 0 r.length, .ref [0, 1] 0 t.length, .ref [0, 2] 0 s.length, .ref [0, 3] 0 d.length]
def lRows (r t : List Int) (s : List Snp) (d : List Int) : List (Id × Blk) := [([0, 0], rI r), ([0, 1], rI t), ([0, 2], rSn s), ([0, 3], rI d)]
theorem dropS_bd {p : List Int × List Int} {e K : Int} (h : ∀ x ∈ p.1, -K ≤ x ∧ x ≤ K) (hK : 0 ≤ K) : ∀ x ∈ (dropS p e).1, -(K + 1) ≤ x ∧ x ≤ K + 1 := by
  intro x hx
  unfold dropS at hx
  split at hx
  · have := h x hx; omega
  · rcases List.mem_or_eq_of_mem_set hx with h' | rfl
    · have := h x h'; omega
    · rw [List.getD_eq_getElem?_getD]
      cases hg : p.1[(e - 2).toNat]? with
      | none => simp; omega
      | some v =>
        have := h v (List.mem_of_getElem? hg)
        simp; omega
theorem sDrop_E (r t : List Int) (s : List Snp) (d : List Int) (e : Int) (hr : r.length = 24) (hd : d.length = 24) (he : e ≤ 25) (hb : ∀ x ∈ r, -1000000 ≤ x ∧ x ≤ 1000000) : E CX 141 [lImg r t s d, .int .i64 e] (lRows r t s d) = some { val := lImg r t s d, io := [rI (dropS (r, d) e).1, rI t, rSn s, rI (dropS (r, d) e).2] } := by
  refine E_fin Tryz.f141 _ an141 rfl rfl rfl Tryz.func141 rfl (by kernel_rfl) ?_
  by_cases c : e < 2
  · simp [go_sem, lImg, lRows, rI, rSn, dropS, c]
  · have hc : (e - 2).toNat < r.length := by omega
    have hc24 : (e - 2).toNat < 24 := by omega
    have hcd : (e - 2).toNat < d.length := by omega
    obtain ⟨v, gv⟩ : ∃ v, r[(e - 2).toNat] = v := ⟨_, rfl⟩
    have hv := hb v (by rw [← gv]; exact List.getElem_mem hc)
    have gd : r.getD (e - 2).toNat 0 = v := by rw [List.getD_eq_getElem?_getD, List.getElem?_eq_getElem hc, gv]; rfl
    have hset : (r.set (e - 2).toNat (v - 1)).getD (e - 2).toNat 0 = v - 1 := by rw [getD_set _ _ _ _ hc, if_pos rfl]
    have hds : dropS (r, d) e = (r.set (e - 2).toNat (v - 1), if v - 1 = 0 then d.set (e - 2).toNat 0 else d) := by
      unfold dropS
      simp only
      rw [if_neg c, gd, hset]
    rw [hds]
    have p0 : (2 : Int) ≤ e := by omega
    by_cases c2 : v - 1 = 0
    · have c3 : v = 1 := by omega
      subst c3
      simp [go_sem, lImg, lRows, rI, rSn, c, hr, hd, hc24, gv, p0, wrap_id (n := e - 2) (by omega), show IntKind.i64.wrap 0 = 0 by decide]
    · simp [go_sem, lImg, lRows, rI, rSn, c, c2, hr, hd, hc24, gv, p0, wrap_id (n := e - 2) (by omega), wrap_id (n := v - 1) (by omega)]
end Go.Proofs.YtndgpinhbffleaaGreat


namespace Go.Proofs.YtndgpinhbffleaaGreat
open Go
set_option maxRecDepth 100000
set_option maxHeartbeats 2000000
set_option linter.unusedSimpArgs false
set_option linter.unusedVariables false
/-- Answers of the reference: an image of rows of its own; with a code. -/
def resM (m : Img) : Res := { val := oImg m, own := oRows m }
def resS (m : Img) (c : Int) : Res := { val := .tuple [oImg m, .int .i64 c], own := oRows m }
theorem sRaise_E (r t : List Int) (s : List Snp) (d : List Int) (T : List Int) (hT : tabOK T = true) (hr : r.length = 24) (hb : ∀ x ∈ r, 0 ≤ x ∧ x ≤ 1000000) :
    E CX 146 [lImg r t s d, .sl 1 (T.map (.int .i64))] (lRows r t s d) = some { val := lImg r t s d, io := [rI ((clus T).foldl bump r), rI t, rSn s, rI d] } := by
  have e1 := sClusters_E T (by have := tabOK_len hT; omega) (fun x hx => tab_le' hT x hx)
  have hcl := clus_len T
  have h12 := tabOK_len hT
  have hcm : ∀ c ∈ clus T, 0 ≤ c ∧ c < 24 := fun c hc => tab_clus hT hc
  generalize clus T = cs at *
  refine E_fin Tryz.f146 _ an146 rfl rfl rfl Tryz.func146 rfl (by kernel_rfl) ?_
  simp [go_sem, lImg, lRows, rI, rSn, e1, hr]
  refine loop_for (fun X => fin CX _ _ X = _) cs (fun k (b : List Int) => b.length = 24 ∧ ∀ x ∈ b, 0 ≤ x ∧ x ≤ 1000000 + (k : Int)) (fun k b => ⟨SS [(2, .ptr [2] 0 0), (4, .ptr [4] 0 0), (5, .sl 1 (cs.map (.int .i64))), (6, .int .i64 k)], HS [([2], ⟨true, 26, 4, [.agg [.ref [0, 0] 0 24, .ref [0, 1] 0 t.length, .ref [0, 2] 0 s.length, .ref [0, 3] 0 d.length]]⟩), ([4], ⟨true, 26, 4, [.agg [.nil, .nil, .nil, .nil]]⟩), ([0, 0], rI b), ([0, 1], rI t), ([0, 2], rSn s), ([0, 3], rI d)]⟩)
    (fun q k b => (.exit 0, ⟨SS [(2, .ptr [2] 0 0), (4, .ptr [4] 0 0)], HS [([2], ⟨true, 26, 4, [.agg [.ref [0, 0] 0 24, .ref [0, 1] 0 t.length, .ref [0, 2] 0 s.length, .ref [0, 3] 0 d.length]]⟩), ([4], ⟨true, 26, 4, [.agg [.nil, .nil, .nil, .nil]]⟩), ([0, 0], rI (q.foldl bump b)), ([0, 1], rI t), ([0, 2], rSn s), ([0, 3], rI d)]⟩)) r ⟨hr, fun x hx => by have := hb x hx; omega⟩ ?_ ?_ ?_ ?_ ?_
  · simp [go_sem, rI, rSn]
  · rintro R k b c r' hk hy hd' ⟨hJ1, hJ2⟩ hR
    have hy := hy hk
    have hc2 := hcm c (by rw [← hy]; exact List.getElem_mem hk)
    have := hR (bump b c) ⟨by rw [bump_len]; exact hJ1, fun x hx => by have := bump_bd (c := c) hJ2 (by omega) x hx; omega⟩ (by simp)
    have hlt : c.toNat < b.length := by omega
    obtain ⟨v, gv⟩ : ∃ v, b[c.toNat] = v := ⟨_, rfl⟩
    have hv := hJ2 v (by rw [← gv]; exact List.getElem_mem hlt)
    have hb : bump b c = b.set c.toNat (v + 1) := by unfold bump; rw [List.getD_eq_getElem?_getD, List.getElem?_eq_getElem hlt, gv]; rfl
    rw [hb] at this
    simp [go_sem, rI, rSn] at this
    simp [go_sem, rI, rSn, hk, hy, hc2.1, hJ1, show c.toNat < 24 by omega, gv, wrap_id (n := v + 1) (by omega), wrap_id (n := (k : Int) + 1) (by omega)]
    exact this
  · intro b hJ; simp [go_sem, rI, rSn]
  · intro _; simp
  · simp [go_sem, rI, rSn]
theorem sRaiseT_E (r t : List Int) (s : List Snp) (d : List Int) (hT : tabOK t = true) (hr : r.length = 24) (hb : ∀ x ∈ r, 0 ≤ x ∧ x ≤ 1000000) :
    E CX 146 [lImg r t s d, .ref [0, 1] 0 t.length] (lRows r t s d) = some { val := lImg r t s d, io := [rI ((clus t).foldl bump r), rI t, rSn s, rI d] } := by
  have e1 := sClusters_E t (by have := tabOK_len hT; omega) (fun x hx => tab_le' hT x hx)
  have hcl := clus_len t
  have h12 := tabOK_len hT
  have hcm : ∀ c ∈ clus t, 0 ≤ c ∧ c < 24 := fun c hc => tab_clus hT hc
  generalize clus t = cs at *
  refine E_fin Tryz.f146 _ an146 rfl rfl rfl Tryz.func146 rfl (by kernel_rfl) ?_
  simp [go_sem, lImg, lRows, rI, rSn, e1, hr]
  refine loop_for (fun X => fin CX _ _ X = _) cs (fun k (b : List Int) => b.length = 24 ∧ ∀ x ∈ b, 0 ≤ x ∧ x ≤ 1000000 + (k : Int)) (fun k b => ⟨SS [(2, .ptr [2] 0 0), (4, .ptr [4] 0 0), (5, .sl 1 (cs.map (.int .i64))), (6, .int .i64 k)], HS [([2], ⟨true, 26, 4, [.agg [.ref [0, 0] 0 24, .ref [0, 1] 0 t.length, .ref [0, 2] 0 s.length, .ref [0, 3] 0 d.length]]⟩), ([4], ⟨true, 26, 4, [.agg [.nil, .nil, .nil, .nil]]⟩), ([0, 0], rI b), ([0, 1], rI t), ([0, 2], rSn s), ([0, 3], rI d)]⟩)
    (fun q k b => (.exit 0, ⟨SS [(2, .ptr [2] 0 0), (4, .ptr [4] 0 0)], HS [([2], ⟨true, 26, 4, [.agg [.ref [0, 0] 0 24, .ref [0, 1] 0 t.length, .ref [0, 2] 0 s.length, .ref [0, 3] 0 d.length]]⟩), ([4], ⟨true, 26, 4, [.agg [.nil, .nil, .nil, .nil]]⟩), ([0, 0], rI (q.foldl bump b)), ([0, 1], rI t), ([0, 2], rSn s), ([0, 3], rI d)]⟩)) r ⟨hr, fun x hx => by have := hb x hx; omega⟩ ?_ ?_ ?_ ?_ ?_
  · simp [go_sem, rI, rSn]
  · rintro R k b c r' hk hy hd' ⟨hJ1, hJ2⟩ hR
    have hy := hy hk
    have hc2 := hcm c (by rw [← hy]; exact List.getElem_mem hk)
    have := hR (bump b c) ⟨by rw [bump_len]; exact hJ1, fun x hx => by have := bump_bd (c := c) hJ2 (by omega) x hx; omega⟩ (by simp)
    have hlt : c.toNat < b.length := by omega
    obtain ⟨v, gv⟩ : ∃ v, b[c.toNat] = v := ⟨_, rfl⟩
    have hv := hJ2 v (by rw [← gv]; exact List.getElem_mem hlt)
    have hb : bump b c = b.set c.toNat (v + 1) := by unfold bump; rw [List.getD_eq_getElem?_getD, List.getElem?_eq_getElem hlt, gv]; rfl
    rw [hb] at this
    simp [go_sem, rI, rSn] at this
    simp [go_sem, rI, rSn, hk, hy, hc2.1, hJ1, show c.toNat < 24 by omega, gv, wrap_id (n := v + 1) (by omega), wrap_id (n := (k : Int) + 1) (by omega)]
    exact this
  · intro b hJ; simp [go_sem, rI, rSn]
  · intro _; simp
  · simp [go_sem, rI, rSn]
theorem refs_bd {m : Img} (P : NearP m) : ∀ x ∈ m.refs, -15 ≤ x ∧ x ≤ 15 := fun x hx => by have := P.refsI x hx; omega
theorem sWriteX_E (m : Img) (P : ImgP m) (g : Nat) (hg : g < m.tab.length) (v : Int) : E CX 90 [eImg m, .int .i64 g, .int .i64 v] [] = some (resS (writeS m g v).1 (writeS m g v).2) := by
  have e1 := sOwn_E m P.b
  have hb := tabOK_at P.tab.1 hg
  have hr := P.refs
  have hd := P.data
  have hbd := refs_bd P.toNearP
  obtain ⟨r, t, s, d⟩ := m
  simp only [eImg] at hb hr hd hg hbd e1
  obtain ⟨e, ge⟩ : ∃ e, t[g] = e := ⟨_, rfl⟩
  have hge : t.getD g 0 = e := by rw [List.getD_eq_getElem?_getD, List.getElem?_eq_getElem hg, ge]; rfl
  rw [hge] at hb
  have hw : writeS ⟨r, t, s, d⟩ g v = if 2 ≤ e ∧ r.getD (e - 2).toNat 0 = 1 then (⟨r, t, s, d.set (e - 2).toNat v⟩, 0) else
      if freeI r < 0 then (⟨r, t, s, d⟩, 7) else (⟨(dropS (r, d) e).1.set (freeI r).toNat 1, t.set g (2 + freeI r), s, (dropS (r, d) e).2.set (freeI r).toNat v⟩, 0) := by
    rw [← hge]; rfl
  rw [hw]
  by_cases h3 : 2 ≤ e ∧ r.getD (e - 2).toNat 0 = 1
  · rw [if_pos h3]
    have h5 : (e - 2).toNat < 24 := by omega
    have h5r : (e - 2).toNat < r.length := by omega
    have gq : r[(e - 2).toNat] = 1 := by
      have := h3.2
      rwa [List.getD_eq_getElem?_getD, List.getElem?_eq_getElem h5r] at this
    simp only [oImg, oRows, hr, hd] at e1
    refine E_fin Tryz.f90 _ an90 rfl rfl rfl Tryz.func90 rfl (by kernel_rfl) ?_
    simp [go_sem, eImg, e1, hg, ge, h5, hr, hd, gq, h3.1, rI, rSn, resS, oImg, oRows, wrap_id (n := e - 2) (by omega)]
  · rw [if_neg h3]
    have e2 := sFree_E r (by omega)
    have e3 := sDrop_E r t s d e hr hd (by omega) (fun x hx => by have := hbd x hx; omega)
    have hl := dropS_len (p := (r, d)) e
    have hfr := freeI_spec r
    generalize dropS (r, d) e = p at *
    simp only [hr, hd] at hl
    obtain ⟨l1, l2⟩ := hl
    generalize hf : freeI r = f at *
    simp only [lImg, lRows, hr, hd, rI, rSn] at e3
    simp only [oImg, oRows, hr, hd, rI, rSn] at e1
    have cond : ∀ (X : Prop), (2 ≤ e → r.getD (e - 2).toNat 0 = 1 → X) → True := fun _ _ => trivial
    by_cases h4 : 2 ≤ e
    · have h5 : (e - 2).toNat < 24 := by omega
      have h5r : (e - 2).toNat < r.length := by omega
      obtain ⟨q, gq⟩ : ∃ q, r[(e - 2).toNat] = q := ⟨_, rfl⟩
      have hq : ¬ q = 1 := fun x => h3 ⟨h4, by rw [List.getD_eq_getElem?_getD, List.getElem?_eq_getElem h5r, gq]; exact x⟩
      by_cases h0 : f < 0
      · rw [if_pos h0]
        refine E_fin Tryz.f90 _ an90 rfl rfl rfl Tryz.func90 rfl (by kernel_rfl) ?_
        simp [go_sem, eImg, e1, e2, hg, ge, h5, hr, hd, gq, hq, h4, h0, rI, rSn, resS, oImg, oRows, wrap_id (n := e - 2) (by omega)]
      · rw [if_neg h0]
        have f0 : 0 ≤ f := by omega
        have f24 : f.toNat < 24 := by
          rcases hfr with ⟨h, _⟩ | ⟨c, h1, h2, _⟩ <;> omega
        refine E_fin Tryz.f90 _ an90 rfl rfl rfl Tryz.func90 rfl (by kernel_rfl) ?_
        simp [go_sem, eImg, e1, e2, e3, hg, ge, h5, hr, hd, l1, l2, gq, hq, h4, h0, f0, f24, rI, rSn, resS, oImg, oRows, wrap_id (n := e - 2) (by omega), wrap_id (n := 2 + f) (by omega)]
    · by_cases h0 : f < 0
      · rw [if_pos h0]
        refine E_fin Tryz.f90 _ an90 rfl rfl rfl Tryz.func90 rfl (by kernel_rfl) ?_
        simp [go_sem, eImg, e1, e2, hg, ge, hr, hd, h4, h0, rI, rSn, resS, oImg, oRows]
      · rw [if_neg h0]
        have f0 : 0 ≤ f := by omega
        have f24 : f.toNat < 24 := by
          rcases hfr with ⟨h, _⟩ | ⟨c, h1, h2, _⟩ <;> omega
        refine E_fin Tryz.f90 _ an90 rfl rfl rfl Tryz.func90 rfl (by kernel_rfl) ?_
        simp [go_sem, eImg, e1, e2, e3, hg, ge, hr, hd, l1, l2, h4, h0, f0, f24, rI, rSn, resS, oImg, oRows, wrap_id (n := 2 + f) (by omega)]
theorem sZeroX_E (m : Img) (P : ImgP m) (g : Nat) (hg : g < m.tab.length) : E CX 120 [eImg m, .int .i64 g] [] = some (resM (zeroS m g)) := by
  have e1 := sOwn_E m P.b
  have hb := tabOK_at P.tab.1 hg
  have hr := P.refs
  have hd := P.data
  have hbd := refs_bd P.toNearP
  obtain ⟨r, t, s, d⟩ := m
  simp only [eImg] at hb hr hd hg hbd e1
  obtain ⟨e, ge⟩ : ∃ e, t[g] = e := ⟨_, rfl⟩
  have hge : t.getD g 0 = e := by rw [List.getD_eq_getElem?_getD, List.getElem?_eq_getElem hg, ge]; rfl
  rw [hge] at hb
  have hw : zeroS ⟨r, t, s, d⟩ g = ⟨(dropS (r, d) e).1, t.set g 1, s, (dropS (r, d) e).2⟩ := by rw [← hge]; rfl
  rw [hw]
  have e3 := sDrop_E r t s d e hr hd (by omega) (fun x hx => by have := hbd x hx; omega)
  have hl := dropS_len (p := (r, d)) e
  generalize dropS (r, d) e = p at *
  simp only [hr, hd] at hl
  obtain ⟨l1, l2⟩ := hl
  simp only [lImg, lRows, hr, hd, rI, rSn] at e3
  simp only [oImg, oRows, hr, hd, rI, rSn] at e1
  refine E_fin Tryz.f120 _ an120 rfl rfl rfl Tryz.func120 rfl (by kernel_rfl) ?_
  simp [go_sem, eImg, e1, e3, hg, ge, hr, hd, l1, l2, rI, rSn, resM, oImg, oRows]
theorem dropsS_len : ∀ (q : List Int) (p : List Int × List Int), (q.foldl dropS p).1.length = p.1.length ∧ (q.foldl dropS p).2.length = p.2.length := by
  intro q
  induction q with
  | nil => intro p; exact ⟨rfl, rfl⟩
  | cons e q ih =>
    intro p
    simp only [List.foldl_cons]
    obtain ⟨h1, h2⟩ := ih (dropS p e)
    obtain ⟨h3, h4⟩ := dropS_len (p := p) e
    exact ⟨h1.trans h3, h2.trans h4⟩
theorem sResizeX_E (m : Img) (P : ImgP m) (N : Nat) (hN : N ≤ 12) : E CX 87 [eImg m, .int .i64 N] [] = some (resM (resizeS m N)) := by
  have e1 := sOwn_E m P.b
  have hr := P.refs
  have hd := P.data
  have ht := P.tab.1
  have ht12 := tabOK_len ht
  have hbd := refs_bd P.toNearP
  obtain ⟨r, t, s, d⟩ := m
  simp only [eImg] at hr hd ht ht12 hbd e1
  have hw : resizeS ⟨r, t, s, d⟩ N = ⟨((t.drop N).foldl dropS (r, d)).1, resz t N, s, ((t.drop N).foldl dropS (r, d)).2⟩ := rfl
  rw [hw]
  have e2 := sResize_E t N (by omega)
  have hl := dropsS_len (t.drop N) (r, d)
  simp only [hr, hd] at hl
  have hg : ∀ i (h : i < (t.drop N).length), ∃ h2 : N + i < t.length, t[N + i] = (t.drop N)[i] := fun i h => by
    rw [List.length_drop] at h
    exact ⟨by omega, by rw [List.getElem_drop]⟩
  have hx25 : ∀ e ∈ t.drop N, e ≤ 25 := fun e he => tab_le' ht e (List.mem_of_mem_drop he)
  have hlen : (t.drop N).length = t.length - N := List.length_drop
  generalize hxs : t.drop N = xs at *
  simp only [oImg, oRows, hr, hd, rI, rSn] at e1
  refine E_fin Tryz.f87 _ an87 rfl rfl rfl Tryz.func87 rfl (by kernel_rfl) ?_
  simp [go_sem, eImg, e1]
  refine loop_for (fun X => fin CX _ _ X = _) xs (fun k (b : List Int × List Int) => b.1.length = 24 ∧ b.2.length = 24 ∧ ∀ x ∈ b.1, -(15 + (k : Int)) ≤ x ∧ x ≤ 15 + (k : Int)) (fun k b => ⟨SS [(1, .int .i64 N), (2, .ptr [2] 0 0), (4, .ptr [4] 0 0), (5, .int .i64 ((N : Int) + k))], HS [([2], ⟨true, 26, 4, [.agg [.ref [70] 0 24, .ref [71] 0 t.length, .ref [72] 0 s.length, .ref [73] 0 24]]⟩), ([4], ⟨true, 26, 4, [.agg [.nil, .nil, .nil, .nil]]⟩), ([70], rI b.1), ([71], rI t), ([72], rSn s), ([73], rI b.2)]⟩)
    (fun q k b => (.exit 0, ⟨SS [(1, .int .i64 N), (2, .ptr [2] 0 0), (4, .ptr [4] 0 0)], HS [([2], ⟨true, 26, 4, [.agg [.ref [70] 0 24, .ref [71] 0 t.length, .ref [72] 0 s.length, .ref [73] 0 24]]⟩), ([4], ⟨true, 26, 4, [.agg [.nil, .nil, .nil, .nil]]⟩), ([70], rI (q.foldl dropS b).1), ([71], rI t), ([72], rSn s), ([73], rI (q.foldl dropS b).2)]⟩)) (r, d) ⟨hr, hd, fun x hx => by have := hbd x hx; omega⟩ ?_ ?_ ?_ ?_ ?_
  · simp [go_sem, rI, rSn]
  · rintro R k ⟨b1, b2⟩ e q hk hy hd' ⟨hJ1, hJ2, hJ3⟩ hR
    simp only at hJ1 hJ2 hJ3
    have hy := hy hk
    obtain ⟨g1, g2⟩ := hg k hk
    rw [hy] at g2
    have he := hx25 e (by rw [← hy]; exact List.getElem_mem hk)
    have hk12 : k < 13 := by omega
    have e3 := sDrop_E b1 t s b2 e hJ1 hJ2 he (fun x hx => by have := hJ3 x hx; omega)
    have hbd2 := dropS_bd (p := (b1, b2)) (e := e) hJ3 (by omega)
    have hl2 := dropS_len (p := (b1, b2)) e
    have := hR (dropS (b1, b2) e) ⟨by rw [hl2.1]; exact hJ1, by rw [hl2.2]; exact hJ2, fun x hx => by have := hbd2 x hx; omega⟩ (by simp)
    generalize dropS (b1, b2) e = p at *
    simp only [lImg, lRows, hJ1, hJ2, rI, rSn] at e3
    simp [go_sem, rI, rSn] at this
    simp only [← Int.add_assoc] at this
    have gi : ((N : Int) + k).toNat = N + k := by omega
    simp [go_sem, rI, rSn, e3, gi, g1, g2, show (0 : Int) ≤ (N : Int) + k by omega, show (N : Int) + k < t.length by omega, wrap_id (n := (N : Int) + (k : Int) + 1) (by omega)]
    exact this
  · intro b hJ
    have : ¬ (N : Int) + (xs.length : Int) < t.length := by omega
    simp [go_sem, rI, rSn, this]
  · intro _; simp
  · simp [go_sem, e2, rI, rSn, resM, oImg, oRows, hl.1, hl.2]
end Go.Proofs.YtndgpinhbffleaaGreat


namespace Go.Proofs.YtndgpinhbffleaaGreat
open Go
set_option maxRecDepth 100000
set_option maxHeartbeats 2000000
set_option linter.unusedSimpArgs false
set_option linter.unusedVariables false
theorem sCreateX_E (m : Img) (P : ImgP m) (x : Tx) (hx : x.length ≤ 1099511627776) : E CX 93 [eImg m, .str x] [] = some (resS (createA m x).1 (createA m x).2) := by
  have e1 := sOwn_E m P.b
  have e2 := sName_E x hx
  have e3 := sFind_E m x (by have := P.snaps; omega)
  have e4 := sRaiseT_E m.refs m.tab m.snaps m.data P.tab.1 P.refs (fun x hx => by have := P.refsI x hx; omega)
  have hz : createA m x = if snameOK x = false then (m, 12) else if 0 ≤ findA m x then (m, 8) else if m.snaps.length = 3 then (m, 6) else (createS m x, 0) := by
    unfold createA; rw [create_same P]
  rw [hz]
  have hr := P.refs
  have hd := P.data
  have ht := P.tab.1
  have ht12 := tabOK_len ht
  have hsn := P.snaps
  have hbl := bumps_len (clus m.tab) m.refs
  have hcs : createS m x = ⟨(clus m.tab).foldl bump m.refs, m.tab, m.snaps ++ [⟨x, m.tab⟩], m.data⟩ := rfl
  rw [hcs]
  generalize (clus m.tab).foldl bump m.refs = b at *
  obtain ⟨r, t, s, d⟩ := m
  simp only [eImg] at e1 e3 e4 hr hd ht12 hsn hbl ⊢
  generalize findA ⟨r, t, s, d⟩ x = k at *
  rw [hr] at hbl
  simp only [lImg, lRows, hr, hd, rI, rSn] at e4
  simp only [oImg, oRows, hr, hd, rI, rSn] at e1
  have h3b : ((s.length : Int) == 3) = decide (s.length = 3) := by
    have := beq_nat s.length 3; simpa using this
  cases c2 : snameOK x
  · rw [c2] at e2
    refine E_fin Tryz.f93 _ an93 rfl rfl rfl Tryz.func93 rfl (by kernel_rfl) ?_
    simp [go_sem, eImg, e1, e2, resS, oImg, oRows, hr, hd, rI, rSn]
  rw [c2] at e2
  rw [if_neg (by simp)]
  by_cases c3 : 0 ≤ k
  · rw [if_pos c3]
    refine E_fin Tryz.f93 _ an93 rfl rfl rfl Tryz.func93 rfl (by kernel_rfl) ?_
    simp [go_sem, eImg, e1, e2, e3, c3, resS, oImg, oRows, hr, hd, rI, rSn]
  rw [if_neg c3]
  by_cases c4 : s.length = 3
  · rw [if_pos c4]
    refine E_fin Tryz.f93 _ an93 rfl rfl rfl Tryz.func93 rfl (by kernel_rfl) ?_
    simp [go_sem, eImg, e1, e2, e3, c3, c4, resS, oImg, oRows, hr, hd, rI, rSn]
  rw [if_neg c4]
  have c4' : ¬ (s.length : Int) = 3 := by omega
  refine E_fin Tryz.f93 _ an93 rfl rfl rfl Tryz.func93 rfl (by kernel_rfl) ?_
  simp [go_sem, eImg, eSnp, e1, e2, e3, e4, c3, c4, c4', h3b, resS, oImg, oRows, hr, hd, hbl, rI, rSn, show t.length ≤ 1073741824 by omega, show s.length + 1 ≤ 1073741824 by omega]
theorem snap_mem {m : Img} (P : ImgP m) {k : Nat} (hk : k < m.snaps.length) : ∃ y, m.snaps[k] = y ∧ snapAt m k = y.tab ∧ tabOK y.tab = true := by
  refine ⟨_, rfl, ?_, ?_⟩
  · simp [snapAt, List.getD_eq_getElem?_getD, List.getElem?_eq_getElem hk]
  · have := (P.snap hk).1
    simpa [snapAt, List.getD_eq_getElem?_getD, List.getElem?_eq_getElem hk] using this
theorem sDeleteX_E (m : Img) (P : ImgP m) (x : Tx) : E CX 94 [eImg m, .str x] [] = some (resS (deleteA m x).1 (deleteA m x).2) := by
  have e1 := sOwn_E m P.b
  have e3 := sFind_E m x (by have := P.snaps; omega)
  have hr := P.refs
  have hd := P.data
  have ht12 := tabOK_len P.tab.1
  have hsn := P.snaps
  have hbd := refs_bd P.toNearP
  rcases findA_spec m x with ⟨h1, _⟩ | ⟨k, h1, h2, _⟩
  · have hz : deleteA m x = (m, 5) := by unfold deleteA; rw [h1]; rfl
    rw [hz]
    rw [h1] at e3
    obtain ⟨r, t, s, d⟩ := m
    simp only [eImg, oImg, oRows, rI, rSn] at e1 e3 hr hd
    simp only [hr, hd] at e1
    have tk1 : List.take 24 (r.map (AV.int .i64)) = r.map (AV.int .i64) := List.take_of_length_le (by simp [hr])
    have tk2 : List.take 24 (d.map (AV.int .i64)) = d.map (AV.int .i64) := List.take_of_length_le (by simp [hd])
    refine E_fin Tryz.f94 _ an94 rfl rfl rfl Tryz.func94 rfl (by kernel_rfl) ?_
    simp [go_sem, eImg, e1, e3, tk1, tk2, resS, oImg, oRows, hr, hd, rI, rSn]
  · have hz : deleteA m x = (deleteS m k, 0) := by
      unfold deleteA
      rw [h1, if_neg (by omega), Int.toNat_natCast, delete_same P h2]
    rw [hz]
    rw [h1] at e3
    obtain ⟨y, gy, hat, hy⟩ := snap_mem P h2
    have hy12 := tabOK_len hy
    have hds : deleteS m k = ⟨((snapAt m k).foldl dropS (m.refs, m.data)).1, m.tab, m.snaps.eraseIdx k, ((snapAt m k).foldl dropS (m.refs, m.data)).2⟩ := rfl
    rw [hds, hat]
    have hl := dropsS_len y.tab (m.refs, m.data)
    simp only [hr, hd] at hl
    have hx25 : ∀ e ∈ y.tab, e ≤ 25 := fun e he => tab_le' hy e he
    obtain ⟨r, t, s, d⟩ := m
    simp only [eImg, oImg, oRows, rI, rSn] at e1 e3 hr hd ht12 hsn hbd h2 gy
    simp only [hr, hd] at e1
    have her : s.eraseIdx k = s.take k ++ s.drop (k + 1) := List.eraseIdx_eq_take_drop_succ s k
    have hel : (s.eraseIdx k).length = s.length - 1 := by rw [List.length_eraseIdx, if_pos h2]
    generalize hys : y.tab = ys at *
    have tk1 : List.take 24 (r.map (AV.int .i64)) = r.map (AV.int .i64) := List.take_of_length_le (by simp [hr])
    have tk2 : List.take 24 (d.map (AV.int .i64)) = d.map (AV.int .i64) := List.take_of_length_le (by simp [hd])
    refine E_fin Tryz.f94 _ an94 rfl rfl rfl Tryz.func94 rfl (by kernel_rfl) ?_
    simp [go_sem, eImg, e1, e3, tk1, tk2, hr, hd, show ¬ (k : Int) < 0 by omega]
    refine loop_for (fun X => fin CX _ _ X = _) ys (fun n (b : List Int × List Int) => b.1.length = 24 ∧ b.2.length = 24 ∧ ∀ x ∈ b.1, -(15 + (n : Int)) ≤ x ∧ x ≤ 15 + (n : Int)) (fun n b => ⟨SS [(2, .ptr [2] 0 0), (4, .ptr [4] 0 0), (6, .int .i64 k), (7, .int .i64 n)], HS [([2], ⟨true, 26, 4, [.agg [.ref [70] 0 24, .ref [71] 0 t.length, .ref [72] 0 s.length, .ref [73] 0 24]]⟩), ([4], ⟨true, 26, 4, [.agg [.nil, .nil, .nil, .nil]]⟩), ([70], rI b.1), ([71], rI t), ([72], rSn s), ([73], rI b.2)]⟩)
      (fun q n b => (.exit 0, ⟨SS [(2, .ptr [2] 0 0), (4, .ptr [4] 0 0), (6, .int .i64 k)], HS [([2], ⟨true, 26, 4, [.agg [.ref [70] 0 24, .ref [71] 0 t.length, .ref [72] 0 s.length, .ref [73] 0 24]]⟩), ([4], ⟨true, 26, 4, [.agg [.nil, .nil, .nil, .nil]]⟩), ([70], rI (q.foldl dropS b).1), ([71], rI t), ([72], rSn s), ([73], rI (q.foldl dropS b).2)]⟩)) (r, d) ⟨hr, hd, fun x hx => by have := hbd x hx; omega⟩ ?_ ?_ ?_ ?_ ?_
    · simp [go_sem, rI, rSn]
    · rintro R n ⟨b1, b2⟩ e q hn hw hd' ⟨hJ1, hJ2, hJ3⟩ hR
      simp only at hJ1 hJ2 hJ3
      have hw := hw hn
      have he := hx25 e (by rw [← hw]; exact List.getElem_mem hn)
      have e4 := sDrop_E b1 t s b2 e hJ1 hJ2 he (fun x hx => by have := hJ3 x hx; omega)
      have hbd2 := dropS_bd (p := (b1, b2)) (e := e) hJ3 (by omega)
      have hl2 := dropS_len (p := (b1, b2)) e
      have := hR (dropS (b1, b2) e) ⟨by rw [hl2.1]; exact hJ1, by rw [hl2.2]; exact hJ2, fun x hx => by have := hbd2 x hx; omega⟩ (by simp)
      generalize dropS (b1, b2) e = p at *
      simp only [lImg, lRows, hJ1, hJ2, rI, rSn] at e4
      simp [go_sem, rI, rSn] at this
      simp [go_sem, rI, rSn, eSnp, e4, h2, gy, hys, hn, hw, wrap_id (n := (n : Int) + 1) (by omega)]
      exact this
    · intro b hJ
      simp [go_sem, rI, rSn, eSnp, h2, gy, hys]
    · intro _; simp
    · have w1 : IntKind.i64.wrap ((k : Int) + 1) = (k : Int) + 1 := wrap_id (by omega)
      have k1 : ((k : Int) + 1).toNat = k + 1 := by omega
      simp [go_sem, rI, rSn, resS, oImg, oRows, hl.1, hl.2, h2, w1, k1, her, show k ≤ s.length by omega, show (k : Int) ≤ s.length by omega, show k + 1 ≤ s.length by omega, show (k : Int) + 1 ≤ s.length by omega, show (0 : Int) ≤ (k : Int) + 1 by omega, show k ≤ 1073741824 by omega, show k + (s.length - (k + 1)) ≤ 1073741824 by omega, show s.length ≤ 1073741824 by omega]
theorem sRevertX_E (m : Img) (P : ImgP m) (x : Tx) : E CX 95 [eImg m, .str x] [] = some (resS (revertA m x).1 (revertA m x).2) := by
  have e1 := sOwn_E m P.b
  have e3 := sFind_E m x (by have := P.snaps; omega)
  have hr := P.refs
  have hd := P.data
  have ht := P.tab.1
  have ht12 := tabOK_len P.tab.1
  have hsn := P.snaps
  have hrI := P.refsI
  rcases findA_spec m x with ⟨h1, _⟩ | ⟨k, h1, h2, _⟩
  · have hz : revertA m x = (m, 5) := by unfold revertA; rw [h1]; rfl
    rw [hz]
    rw [h1] at e3
    obtain ⟨r, t, s, d⟩ := m
    simp only [eImg, oImg, oRows, rI, rSn] at e1 e3 hr hd
    simp only [hr, hd] at e1
    have tk1 : List.take 24 (r.map (AV.int .i64)) = r.map (AV.int .i64) := List.take_of_length_le (by simp [hr])
    have tk2 : List.take 24 (d.map (AV.int .i64)) = d.map (AV.int .i64) := List.take_of_length_le (by simp [hd])
    refine E_fin Tryz.f95 _ an95 rfl rfl rfl Tryz.func95 rfl (by kernel_rfl) ?_
    simp [go_sem, eImg, e1, e3, tk1, tk2, resS, oImg, oRows, hr, hd, rI, rSn]
  · have hz : revertA m x = (revertS m k, 0) := by
      unfold revertA
      rw [h1, if_neg (by omega), Int.toNat_natCast, revert_same P h2]
    rw [hz]
    rw [h1] at e3
    obtain ⟨y, gy, hat, hy⟩ := snap_mem P h2
    have hy12 := tabOK_len hy
    have hds : revertS m k = ⟨(m.tab.foldl dropS ((clus (snapAt m k)).foldl bump m.refs, m.data)).1, snapAt m k, m.snaps, (m.tab.foldl dropS ((clus (snapAt m k)).foldl bump m.refs, m.data)).2⟩ := rfl
    rw [hds, hat]
    have e5 := sRaise_E m.refs m.tab m.snaps m.data y.tab hy hr (fun x hx => by have := hrI x hx; omega)
    have hbl := bumps_len (clus y.tab) m.refs
    have hcl := clus_len y.tab
    have hbb := bumps_bd (clus y.tab) m.refs 15 (fun x hx => hrI x hx) (by omega)
    generalize (clus y.tab).foldl bump m.refs = r1 at *
    rw [hr] at hbl
    have hl := dropsS_len m.tab (r1, m.data)
    simp only [hbl, hd] at hl
    have hx25 : ∀ e ∈ m.tab, e ≤ 25 := fun e he => tab_le' ht e he
    obtain ⟨r, t, s, d⟩ := m
    simp only [eImg, oImg, oRows, rI, rSn, lImg, lRows] at e1 e3 e5 hr hd ht12 hsn h2 gy hl
    simp only [hr, hd] at e1 e5
    generalize hys : y.tab = ys at *
    have tk1 : List.take 24 (r.map (AV.int .i64)) = r.map (AV.int .i64) := List.take_of_length_le (by simp [hr])
    have tk2 : List.take 24 (d.map (AV.int .i64)) = d.map (AV.int .i64) := List.take_of_length_le (by simp [hd])
    refine E_fin Tryz.f95 _ an95 rfl rfl rfl Tryz.func95 rfl (by kernel_rfl) ?_
    simp [go_sem, eImg, eSnp, e1, e3, e5, tk1, tk2, hr, hd, h2, gy, hys, show ¬ (k : Int) < 0 by omega]
    refine loop_for (fun X => fin CX _ _ X = _) t (fun n (b : List Int × List Int) => b.1.length = 24 ∧ b.2.length = 24 ∧ ∀ x ∈ b.1, -(100 + (n : Int)) ≤ x ∧ x ≤ 100 + (n : Int)) (fun n b => ⟨SS [(2, .ptr [2] 0 0), (4, .ptr [4] 0 0), (6, .int .i64 k), (7, .int .i64 n)], HS [([2], ⟨true, 26, 4, [.agg [.ref [70] 0 24, .ref [71] 0 t.length, .ref [72] 0 s.length, .ref [73] 0 24]]⟩), ([4], ⟨true, 26, 4, [.agg [.nil, .nil, .nil, .nil]]⟩), ([70], rI b.1), ([71], rI t), ([72], rSn s), ([73], rI b.2)]⟩)
      (fun q n b => (.exit 0, ⟨SS [(2, .ptr [2] 0 0), (4, .ptr [4] 0 0), (6, .int .i64 k)], HS [([2], ⟨true, 26, 4, [.agg [.ref [70] 0 24, .ref [71] 0 t.length, .ref [72] 0 s.length, .ref [73] 0 24]]⟩), ([4], ⟨true, 26, 4, [.agg [.nil, .nil, .nil, .nil]]⟩), ([70], rI (q.foldl dropS b).1), ([71], rI t), ([72], rSn s), ([73], rI (q.foldl dropS b).2)]⟩)) (r1, d) ⟨hbl, hd, fun x hx => by have := hbb x hx; omega⟩ ?_ ?_ ?_ ?_ ?_
    · simp [go_sem, rI, rSn]
    · rintro R n ⟨b1, b2⟩ e q hn hw hd' ⟨hJ1, hJ2, hJ3⟩ hR
      simp only at hJ1 hJ2 hJ3
      have hw := hw hn
      have he := hx25 e (by rw [← hw]; exact List.getElem_mem hn)
      have e4 := sDrop_E b1 t s b2 e hJ1 hJ2 he (fun x hx => by have := hJ3 x hx; omega)
      have hbd2 := dropS_bd (p := (b1, b2)) (e := e) hJ3 (by omega)
      have hl2 := dropS_len (p := (b1, b2)) e
      have := hR (dropS (b1, b2) e) ⟨by rw [hl2.1]; exact hJ1, by rw [hl2.2]; exact hJ2, fun x hx => by have := hbd2 x hx; omega⟩ (by simp)
      generalize dropS (b1, b2) e = p at *
      simp only [lImg, lRows, hJ1, hJ2, rI, rSn] at e4
      simp [go_sem, rI, rSn] at this
      simp [go_sem, rI, rSn, e4, hn, hw, wrap_id (n := (n : Int) + 1) (by omega)]
      exact this
    · intro b hJ
      simp [go_sem, rI, rSn]
    · intro _; simp
    · simp [go_sem, rI, rSn, eSnp, resS, oImg, oRows, hl.1, hl.2, h2, gy, hys, show ys.length ≤ 1073741824 by omega]
end Go.Proofs.YtndgpinhbffleaaGreat


namespace Go.Proofs.YtndgpinhbffleaaGreat
open Go
set_option maxRecDepth 100000
set_option linter.unusedSimpArgs false
set_option linter.unusedVariables false
theorem isNumber_E (n : Int) : E CX 78 [.int .i64 n] [] = some { val := .bool (isNum n) } := by
  refine E_fin Tryz.f78 _ an78 rfl rfl rfl Tryz.func78 rfl (by kernel_rfl) ?_
  simp [go_sem, within_E, isNum]
theorem isKind_E (n : Int) : E CX 212 [.int .i64 n] [] = some { val := .bool (inn n 1 9) } := by
  refine E_fin Tryz.f212 _ an212 rfl rfl rfl Tryz.func212 rfl (by kernel_rfl) ?_
  simp [go_sem, within_E]
theorem areInts_E (l : List Int) (hl : l.length ≤ 1073741824) : E CX 236 [.sl 1 (l.map (.int .i64))] [] = some { val := .bool (intsOK l) } := by
  refine E_fin Tryz.f236 _ an236 rfl rfl rfl Tryz.func236 rfl (by kernel_rfl) ?_
  have e1 := allInt_E 78 l isNum rfl hl isNumber_E
  unfold intsOK
  by_cases c : l.length ≤ 16
  · simp [go_sem, e1, c, show (l.length : Int) ≤ 16 by omega]
  · simp [go_sem, c, show ¬ (l.length : Int) ≤ 16 by omega]
theorem sumOf_E (t : Tx) (ht : t.length ≤ 1000000) : E CX 187 [.str t] [] = some { val := .int .i64 (sumF t 1 0) } := by
  refine E_fin Tryz.f187 _ an187 rfl rfl rfl Tryz.func187 rfl (by kernel_rfl) ?_
  simp [go_sem]
  refine loop_for (fun X => fin CX _ _ X = _) t (fun n (a : Int) => 0 ≤ a ∧ a < 251) (fun n a => ⟨SS [(0, .str t), (3, .int .i64 a), (6, .int .i64 t.length), (7, .int .i64 n)], HE⟩) (fun r n a => (.exit 0, ⟨SS [(3, .int .i64 (sumF r (n + 1) a))], HE⟩)) 0 (by omega) ?_ ?_ ?_ ?_ ?_
  · simp [go_sem]
  · intro R n a b r hn hx hd hI hR
    have hx := hx hn
    have hb := b.toNat_lt
    have m1 : 0 ≤ ((n : Int) + 1) * ((b.toNat : Int) + 1) := Int.mul_nonneg (by omega) (by omega)
    have m2 : ((n : Int) + 1) * ((b.toNat : Int) + 1) ≤ 1000001 * 257 := Int.mul_le_mul (by omega) (by omega) (by omega) (by omega)
    have hp : ((n : Int) + 1) * ((b.toNat : Int) + 1) = (n : Int) * b.toNat + n + b.toNat + 1 := by rw [Int.add_mul, Int.mul_add]; omega
    have := hR ((a + ((n : Int) + 1) * ((b.toNat : Int) + 1)).tmod 251) (by rw [Int.tmod_eq_emod_of_nonneg (by omega)]; omega) (by simp [sumF])
    simp [go_sem] at this
    simp [go_sem, hn, hx, wrap_byte, wrap_id (n := (n : Int) + 1) (by omega), wrap_id (n := (b.toNat : Int) + 1) (by omega), wrap_id (n := ((n : Int) + 1) * ((b.toNat : Int) + 1)) (by omega), wrap_id (n := a + ((n : Int) + 1) * ((b.toNat : Int) + 1)) (by omega)]
    exact this
  · intro _ _; simp [go_sem, sumF]
  · intro _; simp
  · simp [go_sem]
theorem fd (n : Int) : n.fdiv 256 = n / 256 ∧ n.fdiv 65536 = n / 65536 ∧ n.fdiv 16777216 = n / 16777216 :=
  ⟨Int.fdiv_eq_ediv_of_nonneg _ (by omega), Int.fdiv_eq_ediv_of_nonneg _ (by omega), Int.fdiv_eq_ediv_of_nonneg _ (by omega)⟩
theorem pack_E (l : List Int) (hl : l.length ≤ 1000) : E CX 186 [.sl 1 (l.map (.int .i64))] [] = some { val := .str (packF l) } := by
  refine E_fin Tryz.f186 _ an186 rfl rfl rfl Tryz.func186 rfl (by kernel_rfl) ?_
  simp [go_sem]
  refine loop_for (fun X => fin CX _ _ X = _) l (fun n (a : Tx) => a.length = 4 * n) (fun n a => ⟨SS [(3, .ref [6] 0 a.length), (7, .sl 1 (l.map (.int .i64))), (8, .int .i64 l.length), (9, .int .i64 n)], HS [([6], ⟨false, 5, 1, a.map eByte⟩)]⟩)
    (fun r n a => (.exit 0, ⟨SS [(3, .ref [6] 0 (a ++ packF r).length)], HS [([6], ⟨false, 5, 1, (a ++ packF r).map eByte⟩)]⟩)) [] rfl ?_ ?_ ?_ ?_ ?_
  · simp [go_sem]
  · intro R n a x r hn hx hd hI hR
    have hx := hx hn
    have := hR (a ++ four x) (by simp [four, hI]; omega) (by simp [packF])
    simp [go_sem, four, eByte] at this
    simp [go_sem, hn, hx, wrap_u8, (fd x).1, (fd x).2.1, (fd x).2.2, show a.length + 4 ≤ 1073741824 by omega, wrap_id (n := (n : Int) + 1) (by omega)]
    exact this
  · intro a hI; simp [go_sem, packF]
  · intro _; simp
  · have := packF_length l
    simp [go_sem, bytesOf_map, show (packF l).length ≤ 1099511627776 by omega]
theorem seal_E (kind : Int) (l : List Int) (hl : l.length ≤ 1000) : E CX 147 [.int .i64 kind, .sl 1 (l.map (.int .i64))] [] = some { val := .str (sealF kind l) } := by
  refine E_fin Tryz.f147 _ an147 rfl rfl rfl Tryz.func147 rfl (by kernel_rfl) ?_
  have e1 := pack_E l hl
  have hp := packF_length l
  have e2 := sumOf_E ([byteOf kind, byteOf l.length] ++ packF l) (by simp; omega)
  simp at e2
  simp [go_sem, e1, e2, sealF, show 2 + (packF l).length ≤ 4611686018427387904 by omega, show (packF l).length + 1 + 1 + 2 ≤ 4611686018427387904 by omega, show 2 + (2 + (packF l).length) ≤ 4611686018427387904 by omega, show 2 + 2 + (packF l).length ≤ 4611686018427387904 by omega, show 4 + (packF l).length ≤ 4611686018427387904 by omega]
/-- Bits of numbers that do not meet. -/
theorem or_add (s x m : Nat) (hx : x < 2 ^ s) (h : x + m * 2 ^ s < 9223372036854775808) : IntKind.i64.wrap ((BitVec.ofInt 64 (x : Int) ||| BitVec.ofInt 64 ((m * 2 ^ s : Nat) : Int)).toNat : Int) = ((x + m * 2 ^ s : Nat) : Int) := by
  have e : (BitVec.ofInt 64 (x : Int) ||| BitVec.ofInt 64 ((m * 2 ^ s : Nat) : Int)).toNat = x + m * 2 ^ s := by
    rw [BitVec.toNat_or]
    rw [BitVec.ofInt_natCast, BitVec.ofInt_natCast, BitVec.toNat_ofNat, BitVec.toNat_ofNat, Nat.mod_eq_of_lt (by omega), Nat.mod_eq_of_lt (by omega), Nat.or_comm, Nat.mul_comm m, Nat.add_comm]
    exact (Nat.two_pow_add_eq_or_of_lt hx m).symm
  rw [e]
  exact wrap_id (by omega)
theorem or2 (a b : UInt8) : IntKind.i64.wrap ((BitVec.ofNat 64 a.toNat ||| BitVec.ofInt 64 ((b.toNat : Int) * 256)).toNat : Int) = (a.toNat : Int) + 256 * b.toNat := by
  have h1 := a.toNat_lt; have h2 := b.toNat_lt
  have := or_add 8 a.toNat b.toNat (by omega) (by omega)
  rw [BitVec.ofInt_natCast] at this
  simp only [Nat.reducePow, Int.natCast_mul, Int.natCast_add, Int.cast_ofNat_Int] at this
  rw [this]; omega
theorem or3 (a b c : UInt8) : IntKind.i64.wrap ((BitVec.ofInt 64 ((a.toNat : Int) + 256 * b.toNat) ||| BitVec.ofInt 64 ((c.toNat : Int) * 65536)).toNat : Int) = (a.toNat : Int) + 256 * b.toNat + 65536 * c.toNat := by
  have h1 := a.toNat_lt; have h2 := b.toNat_lt; have h3 := c.toNat_lt
  have := or_add 16 (a.toNat + 256 * b.toNat) c.toNat (by omega) (by omega)
  simp only [Nat.reducePow, Int.natCast_mul, Int.natCast_add, Int.cast_ofNat_Int] at this
  rw [this]; omega
theorem or4 (a b c d : UInt8) : IntKind.i64.wrap ((BitVec.ofInt 64 ((a.toNat : Int) + 256 * b.toNat + 65536 * c.toNat) ||| BitVec.ofInt 64 ((d.toNat : Int) * 16777216)).toNat : Int) = numOf a b c d := by
  have h1 := a.toNat_lt; have h2 := b.toNat_lt; have h3 := c.toNat_lt; have h4 := d.toNat_lt
  have := or_add 24 (a.toNat + 256 * b.toNat + 65536 * c.toNat) d.toNat (by omega) (by omega)
  simp only [Nat.reducePow, Int.natCast_mul, Int.natCast_add, Int.cast_ofNat_Int] at this
  rw [this]; unfold numOf; omega
theorem nums_cut {t : Tx} {n : Nat} (h : 4 * n + 4 ≤ t.length) : ∃ a b c d, t[4 * n]? = some a ∧ t[4 * n + 1]? = some b ∧ t[4 * n + 2]? = some c ∧ t[4 * n + 3]? = some d ∧ t.drop (4 * n) = a :: b :: c :: d :: t.drop (4 * (n + 1)) := by
  refine ⟨t[4 * n], t[4 * n + 1], t[4 * n + 2], t[4 * n + 3], List.getElem?_eq_getElem _, List.getElem?_eq_getElem _, List.getElem?_eq_getElem _, List.getElem?_eq_getElem _, ?_⟩
  rw [List.drop_eq_getElem_cons (by omega), List.drop_eq_getElem_cons (i := 4 * n + 1) (by omega), List.drop_eq_getElem_cons (i := 4 * n + 1 + 1) (by omega), List.drop_eq_getElem_cons (i := 4 * n + 1 + 1 + 1) (by omega)]
  rfl
theorem nums_short {t : Tx} (h : t.length < 4) : nums t = [] := by
  match t, h with
  | [], _ => rfl
  | [a], _ => rfl
  | [a, b], _ => rfl
  | [a, b, c], _ => rfl
theorem unpack_E (t : Tx) (ht : t.length ≤ 1000000) : E CX 213 [.str t] [] = some { val := .tuple [.ref [0, 0, 0, 0] 0 ((nums t).take 17).length, .bool (decide (t.length % 4 = 0) && intsOK ((nums t).take 17))], own := [⟨false, 3, 1, ((nums t).take 17).map (.int .i64)⟩] } := by
  refine E_fin Tryz.f213 _ an213 rfl rfl rfl Tryz.func213 rfl (by kernel_rfl) ?_
  generalize hL : (nums t).take 17 = L
  have hLl : L.length ≤ 17 := by rw [← hL]; simp; omega
  have e1 := areInts_E L (by omega)
  simp [go_sem]
  refine loop_at (fun X => fin CX _ _ X = _) (fun x : Nat × List Int => 4 * x.1 ≤ t.length + 3 ∧ x.1 ≤ 17 ∧ x.2.length = x.1 ∧ L = x.2 ++ (nums (t.drop (4 * x.1))).take (17 - x.1)) (fun x => ⟨SS [(0, .str t), (4, .ref [6] 0 x.2.length), (5, .int .i64 (4 * x.1 : Nat))], HS [([6], ⟨false, 3, 1, x.2.map (.int .i64)⟩)]⟩)
    (fun x => (.exit 0, ⟨SS [(0, .str t), (4, .ref [6] 0 L.length)], HS [([6], ⟨false, 3, 1, L.map (.int .i64)⟩)]⟩)) (fun x => 17 - x.1) (0, []) ⟨by omega, by omega, rfl, by simp [hL]⟩ ?_ ?_ ?_
  · simp [go_sem]
  · rintro ⟨n, l⟩ ⟨h1, h2, h3, h4⟩
    simp only at h1 h2 h3 h4
    have w1 : IntKind.i64.wrap (4 * (n : Int) + 4) = 4 * (n : Int) + 4 := wrap_id (by omega)
    by_cases c1 : 4 * n + 4 ≤ t.length
    · by_cases c2 : n < 17
      · obtain ⟨a, b, c, d, i0, i1, i2, i3, hd⟩ := nums_cut c1
        have g0 := ge_of i0; have g1 := ge_of i1; have g2 := ge_of i2; have g3 := ge_of i3
        have b1 := b.toNat_lt; have b2 := c.toNat_lt; have b3 := d.toNat_lt
        simp [go_sem, w1, show 4 * (n : Int) + 4 ≤ t.length by omega, show 4 * (n : Int) < 68 by omega, show (4 * (n : Int)).toNat = 4 * n by omega, show (4 * (n : Int) + 1).toNat = 4 * n + 1 by omega, show (4 * (n : Int) + 2).toNat = 4 * n + 2 by omega, show (4 * (n : Int) + 3).toNat = 4 * n + 3 by omega,
          wrap_id (n := 4 * (n : Int) + 1) (by omega), wrap_id (n := 4 * (n : Int) + 2) (by omega), wrap_id (n := 4 * (n : Int) + 3) (by omega), i0, i1, i2, i3, g0, g1, g2, g3, show 4 * n < t.length by omega, show 4 * n + 1 < t.length by omega, show 4 * n + 2 < t.length by omega, show 4 * n + 3 < t.length by omega, show 0 ≤ 4 * (n : Int) by omega, show 0 ≤ 4 * (n : Int) + 1 by omega, show 0 ≤ 4 * (n : Int) + 2 by omega, show 0 ≤ 4 * (n : Int) + 3 by omega,
          wrap_id (n := (b.toNat : Int) * 256) (by omega), wrap_id (n := (c.toNat : Int) * 65536) (by omega), wrap_id (n := (d.toNat : Int) * 16777216) (by omega), or2, or3, or4, show l.length ≤ 1073741823 by omega]
        refine ⟨n + 1, l ++ [numOf a b c d], ⟨by omega, by omega, by simp [h3], ?_⟩, by omega, ?_⟩
        · rw [h4, hd]
          simp only [nums]
          rw [show 17 - n = (17 - (n + 1)) + 1 by omega, List.take_succ_cons, List.append_assoc]
          rfl
        · simp [Int.mul_add]
          refine congrArg (fun z => HU HE [6] ⟨false, 3, 1, List.map (AV.int .i64) l ++ [AV.int .i64 z]⟩) ?_
          rw [← or4 a b c d, ← or3 a b c, ← or2 a b]
          rfl
      · have : L = l := by rw [h4, show 17 - n = 0 by omega]; simp
        subst this
        simp [go_sem, w1, show 4 * (n : Int) + 4 ≤ t.length by omega, show ¬ 4 * (n : Int) < 68 by omega]
    · have : L = l := by rw [h4, nums_short (by simp; omega)]; simp
      subst this
      simp [go_sem, w1, show ¬ 4 * (n : Int) + 4 ≤ t.length by omega]
  · have hm : ((t.length : Int).tmod 4 = 0) ↔ t.length % 4 = 0 := by rw [Int.tmod_eq_emod_of_nonneg (by omega)]; omega
    by_cases c : t.length % 4 = 0
    · simp [go_sem, hm.2 c, c, e1]
    · have c' : ¬ (t.length : Int).tmod 4 = 0 := fun q => c (hm.1 q)
      simp [go_sem, c', c]
end Go.Proofs.YtndgpinhbffleaaGreat


namespace Go.Proofs.YtndgpinhbffleaaGreat
open Go
set_option maxRecDepth 100000
set_option linter.unusedSimpArgs false
set_option linter.unusedVariables false
structure Update where
  at_ : Int
  data : List UInt8
  deriving Inhabited, DecidableEq
def eUpdate (x : Update) : AV := .agg [.int .i64 (x.at_), .str (x.data)]
theorem sharesL_eUpdate (l : List Update) : AV.sharesL (l.map eUpdate) = false := sharesL_map (fun _ => by simp [eUpdate, go_sem]) l
theorem sharesL_repeUpdate (n : Nat) (x : Update) : AV.sharesL (List.replicate n (eUpdate x)) = false := sharesL_rep _ (by simp [eUpdate, go_sem]) n
attribute [go_sem] sharesL_eUpdate sharesL_repeUpdate
def mkUpdate (k : Int) (n : Nat) : List Update := (List.range n).map fun i : Nat => ⟨k + 2 * i + 0, mt (k + 2 * i + 1)⟩
theorem mkUpdate_succ (k : Int) (n : Nat) : mkUpdate k (n + 1) = mkUpdate k n ++ [⟨k + 2 * n + 0, mt (k + 2 * n + 1)⟩] := by simp [mkUpdate, List.range_succ]
theorem mkUpdate_length (k : Int) (n : Nat) : (mkUpdate k n).length = n := by simp [mkUpdate]
end Go.Proofs.YtndgpinhbffleaaGreat


namespace Go.Proofs.YtndgpinhbffleaaGreat
open Go
set_option maxRecDepth 100000
set_option maxHeartbeats 1000000
set_option linter.unusedSimpArgs false
set_option linter.unusedVariables false
structure Src where
  bs : List Int
  n : Nat
  acc : Int
def eSrc (s : Src) : Blk := ⟨true, 132, 3, [.agg [.sl 1 (s.bs.map (.int .u8)), .int .i64 s.n, .int .i64 s.acc]]⟩
structure SrcOK (s : Src) (k : Nat) : Prop where
  bytes : ∀ b ∈ s.bs, 0 ≤ b ∧ b < 256
  n : s.n ≤ k
  acc : 0 ≤ s.acc ∧ s.acc < 2147483648
  len : s.bs.length ≤ 1073741824
def byteF (s : Src) : Int × Src :=
  if s.n < s.bs.length then (s.bs.getD s.n 0, ⟨s.bs, s.n + 1, (s.acc * 31 + s.bs.getD s.n 0 + 7).tmod 2147483648⟩)
  else if 3000 < s.n + 1 then (0, ⟨s.bs, s.n + 1, s.acc⟩)
  else (((s.acc * 1103515245 + 12345).tmod 2147483648).tdiv 65536 |>.tmod 256, ⟨s.bs, s.n + 1, (s.acc * 1103515245 + 12345).tmod 2147483648⟩)
theorem byteF_ok {s : Src} {k : Nat} (g : SrcOK s k) : SrcOK (byteF s).2 (k + 1) ∧ 0 ≤ (byteF s).1 ∧ (byteF s).1 < 256 := by
  have h1 := g.bytes; have h2 := g.n; have h3 := g.acc; have h4 := g.len
  unfold byteF
  split
  · rename_i h
    have hb := h1 s.bs[s.n] (List.getElem_mem h)
    rw [List.getD_eq_getElem?_getD, List.getElem?_eq_getElem h, Option.getD_some]
    refine ⟨⟨h1, by simp only; omega, ?_, h4⟩, hb⟩
    simp only
    rw [Int.tmod_eq_emod_of_nonneg (by omega)]
    omega
  · split
    · exact ⟨⟨h1, by simp only; omega, h3, h4⟩, by omega, by omega⟩
    · refine ⟨⟨h1, by simp only; omega, ?_, h4⟩, ?_⟩
      · simp only
        rw [Int.tmod_eq_emod_of_nonneg (by omega)]
        omega
      · simp only
        rw [Int.tmod_eq_emod_of_nonneg (show (0:Int) ≤ s.acc * 1103515245 + 12345 by omega), Int.tdiv_eq_ediv_of_nonneg (by omega), Int.tmod_eq_emod_of_nonneg (by omega)]
        omega
theorem byte_E (s : Src) (k : Nat) (hk : k ≤ 1000000000) (g : SrcOK s k) : E CX 172 [.ptr [0] 0 0] [([0], eSrc s)] = some { val := .int .i64 (byteF s).1, io := [eSrc (byteF s).2] } := by
  have h1 := g.bytes; have h2 := g.n; have h3 := g.acc; have h4 := g.len
  refine E_fin Tryz.f172 _ an172 rfl rfl rfl Tryz.func172 rfl (by kernel_rfl) ?_
  unfold byteF
  by_cases h : s.n < s.bs.length
  · have hb := h1 s.bs[s.n] (List.getElem_mem h)
    simp [go_sem, eSrc, h, wrap_id (n := (s.n : Int) + 1) (by omega), wrap_id (n := (s.n : Int)) (by omega), wrap_id (n := s.acc * 31) (by omega), wrap_id (n := s.acc * 31 + s.bs[s.n]) (by omega), wrap_id (n := s.acc * 31 + s.bs[s.n] + 7) (by omega), wrap_id (n := s.bs[s.n]) (by omega), show ((s.n : Int) + 1 ≤ s.bs.length) by omega]
  · by_cases h' : 3000 < s.n + 1
    · simp [go_sem, eSrc, h, h', wrap_id (n := (s.n : Int) + 1) (by omega), show ¬ ((s.n : Int) + 1 ≤ s.bs.length) by omega, show (3000 : Int) < (s.n : Int) + 1 by omega]
    · have hd : 0 ≤ ((s.acc * 1103515245 + 12345).tmod 2147483648).tdiv 65536 ∧ ((s.acc * 1103515245 + 12345).tmod 2147483648).tdiv 65536 < 32768 := by
        rw [Int.tmod_eq_emod_of_nonneg (show (0:Int) ≤ s.acc * 1103515245 + 12345 by omega), Int.tdiv_eq_ediv_of_nonneg (by omega)]
        omega
      simp [go_sem, eSrc, h, h', wrap_id (n := ((s.acc * 1103515245 + 12345).tmod 2147483648).tdiv 65536) (by omega), wrap_id (n := (s.n : Int) + 1) (by omega), show ¬ ((s.n : Int) + 1 ≤ s.bs.length) by omega, show ¬ (3000 : Int) < (s.n : Int) + 1 by omega, wrap_id (n := s.acc * 1103515245) (by omega), wrap_id (n := s.acc * 1103515245 + 12345) (by omega)]
def nextF (m : Int) (s : Src) : Int × Src :=
  if m ≤ 1 then (0, s) else if m ≤ 256 then ((byteF s).1.tmod m, (byteF s).2)
  else (((byteF s).1 * 65536 + (byteF (byteF s).2).1 * 256 + (byteF (byteF (byteF s).2).2).1).tmod m, (byteF (byteF (byteF s).2).2).2)
theorem SrcOK.mono {s : Src} {k j : Nat} (g : SrcOK s k) (h : k ≤ j) : SrcOK s j := ⟨g.bytes, by have := g.n; omega, g.acc, g.len⟩
theorem nextF_ok {s : Src} {k : Nat} (m : Int) (g : SrcOK s k) : SrcOK (nextF m s).2 (k + 3) ∧ 0 ≤ (nextF m s).1 ∧ ((nextF m s).1 < m ∨ (nextF m s).1 = 0) := by
  obtain ⟨g1, a1, b1⟩ := byteF_ok g
  obtain ⟨g2, a2, b2⟩ := byteF_ok g1
  obtain ⟨g3, a3, b3⟩ := byteF_ok g2
  unfold nextF
  split
  · exact ⟨g.mono (by omega), by simp, .inr rfl⟩
  · split
    · refine ⟨g1.mono (by omega), ?_, .inl ?_⟩
      · simp only; rw [Int.tmod_eq_emod_of_nonneg a1]; exact Int.emod_nonneg _ (by omega)
      · simp only; rw [Int.tmod_eq_emod_of_nonneg a1]; exact Int.emod_lt_of_pos _ (by omega)
    · refine ⟨g3, ?_, .inl ?_⟩
      · simp only; rw [Int.tmod_eq_emod_of_nonneg (by omega)]; exact Int.emod_nonneg _ (by omega)
      · simp only; rw [Int.tmod_eq_emod_of_nonneg (by omega)]; exact Int.emod_lt_of_pos _ (by omega)
theorem next_E (m : Int) (s : Src) (k : Nat) (hk : k ≤ 900000000) (g : SrcOK s k) : E CX 121 [.ptr [0] 0 0, .int .i64 m] [([0], eSrc s)] = some { val := .int .i64 (nextF m s).1, io := [eSrc (nextF m s).2] } := by
  refine E_fin Tryz.f121 _ an121 rfl rfl rfl Tryz.func121 rfl (by kernel_rfl) ?_
  obtain ⟨g1, a1, b1⟩ := byteF_ok g
  obtain ⟨g2, a2, b2⟩ := byteF_ok g1
  obtain ⟨g3, a3, b3⟩ := byteF_ok g2
  have e1 := byte_E s k (by omega) g
  have e2 := byte_E (byteF s).2 (k + 1) (by omega) g1
  have e3 := byte_E (byteF (byteF s).2).2 (k + 1 + 1) (by omega) g2
  unfold nextF
  generalize byteF (byteF (byteF s).2).2 = x3 at *
  generalize byteF (byteF s).2 = x2 at *
  generalize byteF s = x1 at *
  by_cases h1 : m ≤ 1
  · simp [go_sem, eSrc, h1]
  · by_cases h2 : m ≤ 256
    · simp only [eSrc] at e1
      have h0 : ¬ m = 0 := by omega
      simp [go_sem, eSrc, h1, h2, h0, e1]
    · simp only [eSrc] at e1 e2 e3
      have h0 : ¬ m = 0 := by omega
      simp [go_sem, eSrc, h1, h2, h0, e1, e2, e3, wrap_id (n := x1.1 * 65536) (by omega), wrap_id (n := x2.1 * 256) (by omega), wrap_id (n := x1.1 * 65536 + x2.1 * 256) (by omega), wrap_id (n := x1.1 * 65536 + x2.1 * 256 + x3.1) (by omega)]
def someF : List Unit → Tx × Src → Tx × Src
  | [], a => a
  | _ :: r, a => someF r (a.1 ++ [byteOf (97 + (nextF 26 a.2).1)], (nextF 26 a.2).2)
theorem someF_ok : ∀ (l : List Unit) (a : Tx × Src) (k : Nat), SrcOK a.2 k → SrcOK (someF l a).2 (k + 3 * l.length) ∧ (someF l a).1.length = a.1.length + l.length := by
  intro l
  induction l with
  | nil => intro a k g; exact ⟨g, rfl⟩
  | cons u l ih =>
    intro a k g
    obtain ⟨h1, h2⟩ := ih (a.1 ++ [byteOf (97 + (nextF 26 a.2).1)], (nextF 26 a.2).2) (k + 3) (nextF_ok 26 g).1
    unfold someF
    refine ⟨h1.mono (by simp; omega), ?_⟩
    rw [h2]; simp; omega
end Go.Proofs.YtndgpinhbffleaaGreat


namespace Go.Proofs.YtndgpinhbffleaaGreat
open Go
set_option maxRecDepth 100000
set_option maxHeartbeats 1000000
set_option linter.unusedSimpArgs false
set_option linter.unusedVariables false
theorem l00Source_E (bs : List Int) (h : bs.length ≤ 1073741824) : E CX 58 [.sl 1 (bs.map (.int .u8))] [] = some { val := .ptr [0, 0, 0, 0] 0 0, own := [eSrc ⟨bs, 0, (bs.length : Int).tmod 1000⟩] } := by
  refine E_fin Tryz.f58 _ an58 rfl rfl rfl Tryz.func58 rfl (by kernel_rfl) ?_
  simp [go_sem, eSrc]
theorem source_ok (bs : List Int) (h : bs.length ≤ 1073741824) (hb : ∀ b ∈ bs, 0 ≤ b ∧ b < 256) : SrcOK ⟨bs, 0, (bs.length : Int).tmod 1000⟩ 0 := by
  refine ⟨hb, by simp, ?_, h⟩
  simp only
  rw [Int.tmod_eq_emod_of_nonneg (by omega)]
  omega
end Go.Proofs.YtndgpinhbffleaaGreat


namespace Go.Proofs.YtndgpinhbffleaaGreat
open Go
set_option maxRecDepth 100000
set_option maxHeartbeats 4000000
set_option linter.unusedSimpArgs false
set_option linter.unusedVariables false
def snapNs : List Tx := [[97], [98], [99], [115, 110, 97, 112]]
def snmF (s : Src) : Tx × Src := (snapNs.getD (nextF 4 s).1.toNat [], (nextF 4 s).2)
def numF (s : Src) : Int × Src := ([(nextF 9 s).1, (nextF 70000 (nextF 9 s).2).1, 2147483647].getD ((nextF 9 (nextF 70000 (nextF 9 s).2).2).1.tdiv 4).toNat 0, (nextF 9 (nextF 70000 (nextF 9 s).2).2).2)
theorem snmF_ok {s : Src} {k : Nat} (g : SrcOK s k) : SrcOK (snmF s).2 (k + 3) ∧ (snmF s).1 ∈ snapNs := by
  obtain ⟨g1, a1, b1⟩ := nextF_ok 4 g
  unfold snmF
  refine ⟨g1, ?_⟩
  have h : (nextF 4 s).1.toNat < 4 := by omega
  generalize (nextF 4 s).1.toNat = n at *
  simp only
  rcases n with _ | _ | _ | _ | n
  · simp [snapNs]
  · simp [snapNs]
  · simp [snapNs]
  · simp [snapNs]
  · omega
theorem snap_ok {x : Tx} (h : x ∈ snapNs) : snameOK x = true ∧ x.length ≤ 4 := by
  simp [snapNs] at h
  rcases h with rfl | rfl | rfl | rfl <;> decide
theorem numF_ok {s : Src} {k : Nat} (g : SrcOK s k) : SrcOK (numF s).2 (k + 9) ∧ isNum (numF s).1 = true ∧ ∃ i : Nat, (nextF 9 (nextF 70000 (nextF 9 s).2).2).1.tdiv 4 = i ∧ i < 3 := by
  obtain ⟨g1, a1, b1⟩ := nextF_ok 9 g
  obtain ⟨g2, a2, b2⟩ := nextF_ok 70000 g1
  obtain ⟨g3, a3, b3⟩ := nextF_ok 9 g2
  unfold numF
  generalize nextF 9 (nextF 70000 (nextF 9 s).2).2 = z at *
  generalize nextF 70000 (nextF 9 s).2 = y at *
  generalize nextF 9 s = x at *
  have h4 : 0 ≤ z.1.tdiv 4 ∧ z.1.tdiv 4 < 3 := by
    rw [Int.tdiv_eq_ediv_of_nonneg a3]; omega
  generalize z.1.tdiv 4 = q at *
  refine ⟨g3.mono (by omega), ?_, ⟨_, (Int.toNat_of_nonneg h4.1).symm, by omega⟩⟩
  have hq : q.toNat < 3 := by omega
  generalize q.toNat = n at *
  simp only
  rcases n with _ | _ | _ | n
  · simp [isNum, inn]; omega
  · simp [isNum, inn]; omega
  · simp [isNum, inn]
  · omega
theorem pick_E (l : List Tx) (s : Src) (k : Nat) (hk : k ≤ 800000000) (g : SrcOK s k) (h0 : 0 < l.length) (hl : l.length ≤ 256) : E CX 144 [.ptr [0] 0 0, .sl 1 (l.map .str)] [([0], eSrc s)] = some { val := .str (l.getD (nextF l.length s).1.toNat []), io := [eSrc (nextF l.length s).2] } := by
  have e1 := next_E l.length s k (by omega) g
  obtain ⟨g1, a1, b1⟩ := nextF_ok l.length g
  have hlt : (nextF l.length s).1.toNat < l.length := by omega
  generalize nextF l.length s = u at *
  obtain ⟨v, s1⟩ := u
  simp only at a1 b1 hlt e1 ⊢
  obtain ⟨x, gx⟩ : ∃ x, l[v.toNat] = x := ⟨_, rfl⟩
  have hd : l.getD v.toNat [] = x := by rw [List.getD_eq_getElem?_getD, List.getElem?_eq_getElem hlt, gx]; rfl
  rw [hd]
  have hne : ¬ (l.length : Int) = 0 := by omega
  have hne2 : ¬ l = [] := by intro h; subst h; simp at h0
  simp only [eSrc] at e1
  refine E_fin Tryz.f144 _ an144 rfl rfl rfl Tryz.func144 rfl (by kernel_rfl) ?_
  simp [go_sem, eSrc, e1, hne, hne2, hlt, gx, a1]
theorem snapName_E (s : Src) (k : Nat) (hk : k ≤ 700000000) (g : SrcOK s k) : E CX 91 [.ptr [0] 0 0] [([0], eSrc s)] = some { val := .str (snmF s).1, io := [eSrc (snmF s).2] } := by
  have e1 := pick_E snapNs s k (by omega) g (by decide) (by decide)
  have hl : (snapNs.length : Int) = 4 := by decide
  rw [hl] at e1
  unfold snmF
  generalize nextF 4 s = u at *
  generalize hx : snapNs.getD u.1.toNat [] = x at *
  simp [snapNs, eSrc] at e1
  refine E_fin Tryz.f91 _ an91 rfl rfl rfl Tryz.func91 rfl (by kernel_rfl) ?_
  simp [go_sem, eSrc, e1]
theorem chance2_E (s : Src) (k : Nat) (hk : k ≤ 800000000) (g : SrcOK s k) : E CX 136 [.ptr [0] 0 0, .int .i64 2] [([0], eSrc s)] = some { val := .bool (decide ((nextF 2 s).1 = 1)), io := [eSrc (nextF 2 s).2] } := by
  have e1 := next_E 2 s k (by omega) g
  generalize nextF 2 s = u at *
  simp only [eSrc] at e1
  refine E_fin Tryz.f136 _ an136 rfl rfl rfl Tryz.func136 rfl (by kernel_rfl) ?_
  by_cases c : u.1 = 1
  · simp [go_sem, eSrc, e1, c, show IntKind.i64.wrap 1 = 1 by decide]
  · simp [go_sem, eSrc, e1, c, show IntKind.i64.wrap 1 = 1 by decide]
def sizeF (s : Src) (m : Int) : Int := if m < 1 + (s.bs.length : Int).tdiv 12 then m else 1 + (s.bs.length : Int).tdiv 12
theorem size_E (s : Src) (m : Int) (k : Nat) (g : SrcOK s k) : E CX 137 [.ptr [0] 0 0, .int .i64 m] [([0], eSrc s)] = some { val := .int .i64 (sizeF s m), io := [eSrc s] } := by
  have h := g.len
  have hq : 0 ≤ (s.bs.length : Int).tdiv 12 ∧ (s.bs.length : Int).tdiv 12 ≤ 1073741824 := by
    rw [Int.tdiv_eq_ediv_of_nonneg (by omega)]; omega
  have hq' : 0 ≤ (s.bs.length : Int) / 12 ∧ (s.bs.length : Int) / 12 ≤ 1073741824 := by omega
  unfold sizeF
  refine E_fin Tryz.f137 _ an137 rfl rfl rfl Tryz.func137 rfl (by kernel_rfl) ?_
  by_cases c : m < 1 + (s.bs.length : Int).tdiv 12
  · simp [go_sem, eSrc, c, wrap_id (n := (s.bs.length : Int).tdiv 12) (by omega), wrap_id (n := 1 + (s.bs.length : Int).tdiv 12) (by omega), wrap_id (n := (s.bs.length : Int) / 12) (by omega), wrap_id (n := 1 + (s.bs.length : Int) / 12) (by omega)]
  · simp [go_sem, eSrc, c, wrap_id (n := (s.bs.length : Int).tdiv 12) (by omega), wrap_id (n := 1 + (s.bs.length : Int).tdiv 12) (by omega), wrap_id (n := (s.bs.length : Int) / 12) (by omega), wrap_id (n := 1 + (s.bs.length : Int) / 12) (by omega)]
theorem number_E (s : Src) (k : Nat) (hk : k ≤ 700000000) (g : SrcOK s k) : E CX 138 [.ptr [0] 0 0] [([0], eSrc s)] = some { val := .int .i64 (numF s).1, io := [eSrc (numF s).2] } := by
  obtain ⟨g1, a1, b1⟩ := nextF_ok 9 g
  obtain ⟨g2, a2, b2⟩ := nextF_ok 70000 g1
  obtain ⟨g3, a3, b3⟩ := nextF_ok 9 g2
  obtain ⟨_, _, i, hi, hi3⟩ := numF_ok g
  have e1 := next_E 9 s k (by omega) g
  have e2 := next_E 70000 (nextF 9 s).2 (k + 3) (by omega) g1
  have e3 := next_E 9 (nextF 70000 (nextF 9 s).2).2 (k + 3 + 3) (by omega) g2
  unfold numF
  generalize nextF 9 (nextF 70000 (nextF 9 s).2).2 = z at *
  generalize nextF 70000 (nextF 9 s).2 = y at *
  generalize nextF 9 s = x at *
  simp only [eSrc] at e1 e2 e3
  have hw : IntKind.i64.wrap (z.1.tdiv 4) = z.1.tdiv 4 := wrap_id (by omega)
  rw [hi]
  refine E_fin Tryz.f138 _ an138 rfl rfl rfl Tryz.func138 rfl (by kernel_rfl) ?_
  rcases i with _ | _ | _ | i
  · simp at hi
    simp [go_sem, eSrc, e1, e2, e3, hw, hi, show IntKind.i64.wrap 0 = 0 by decide, show IntKind.i64.wrap 1 = 1 by decide, show IntKind.i64.wrap 2 = 2 by decide]
  · simp at hi
    simp [go_sem, eSrc, e1, e2, e3, hw, hi, show IntKind.i64.wrap 0 = 0 by decide, show IntKind.i64.wrap 1 = 1 by decide, show IntKind.i64.wrap 2 = 2 by decide]
  · simp at hi
    simp [go_sem, eSrc, e1, e2, e3, hw, hi, show IntKind.i64.wrap 0 = 0 by decide, show IntKind.i64.wrap 1 = 1 by decide, show IntKind.i64.wrap 2 = 2 by decide]
  · omega
/-! Images. -/
def imgG (a : Img × Src) : Int × Src := if 0 < a.1.tab.length then nextF a.1.tab.length a.2 else (0, a.2)
def imgK (a : Img × Src) (g : Int) (k : Int) (s : Src) : Img × Src :=
  if k = 0 then ((createA a.1 (snmF s).1).1, (snmF s).2) else
  if k = 1 then ((deleteA a.1 (snmF s).1).1, (snmF s).2) else
  if k = 2 then ((revertA a.1 (snmF s).1).1, (snmF s).2) else
  if k = 3 then (mend { a.1 with tab := resz a.1.tab (nextF 13 s).1.toNat }, (nextF 13 s).2) else
  if k = 4 then (if 0 < a.1.tab.length then mend { a.1 with tab := a.1.tab.set g.toNat 1 } else a.1, s) else
  if 0 < a.1.tab.length then ((writeS a.1 g.toNat (numF s).1).1, (numF s).2) else (a.1, s)
def imgT (a : Img × Src) : Img × Src := imgK a (imgG a).1 (nextF 9 (imgG a).2).1 (nextF 9 (imgG a).2).2
def imgF : List Unit → Img × Src → Img × Src
  | [], a => a
  | _ :: r, a => imgF r (imgT a)
structure DrawnI (m : Img) : Prop where
  ok : imgOK m = true
  names : ∀ s ∈ m.snaps, s.name ∈ snapNs
theorem newI_ok (n : Nat) (h : n ≤ 12) : imgOK (newI n) = true := by
  have hc : ∀ n : Nat, clus (List.replicate n 0) = [] := by
    intro n
    induction n with
    | zero => rfl
    | succ n ih => rw [List.replicate_succ]; unfold clus; rw [if_neg (by omega)]; exact ih
  have rep : ∀ (k : Nat) (i : Nat), (List.replicate k (0 : Int)).getD i 0 = 0 := fun k i => by
    rw [List.getD_eq_getElem?_getD, List.getElem?_replicate]; split <;> rfl
  have ht : tabs (newI n) = [List.replicate n 0] := rfl
  have hN : NearP (newI n) := by
    refine ⟨List.length_replicate, fun x hx => ?_, rfl, fun t h => ?_, List.length_replicate, fun x hx => ?_⟩
    · have := List.eq_of_mem_replicate hx; omega
    · rw [ht] at h
      rw [List.mem_singleton.1 h]
      refine ⟨?_, ?_⟩
      · unfold tabOK
        rw [List.length_replicate, decide_eq_true ‹n ≤ 12›, Bool.true_and, List.all_eq_true]
        intro x hx
        rw [List.eq_of_mem_replicate hx]; decide
      · unfold onceB
        rw [hc]; exact decide_eq_true List.nodup_nil
    · rw [List.eq_of_mem_replicate hx]; decide
  refine imgOK_iff.2 ⟨hN, mend_of List.length_replicate List.length_replicate fun c hc => ?_⟩
  have hz : hasN (tabs (newI n)) c = 0 := by
    rw [hasN_zero, ht]
    intro t h
    rw [List.mem_singleton.1 h]
    intro hm
    have := List.eq_of_mem_replicate hm
    omega
  rw [hz]
  exact ⟨rep 24 c, fun _ => rep 24 c⟩
theorem newI_drawn (n : Nat) (h : n ≤ 12) : DrawnI (newI n) := ⟨newI_ok n h, by simp [newI]⟩
theorem putA_snaps (m : Img) (g : Nat) (c v : Int) : (putA m g c v).snaps = m.snaps := rfl
theorem imgK_ok {a : Img × Src} {g k : Int} {s : Src} {K : Nat} (D : DrawnI a.1) (hg : 0 ≤ g ∧ (g < a.1.tab.length ∨ g = 0)) (gs : SrcOK s K) : DrawnI (imgK a g k s).1 ∧ SrcOK (imgK a g k s).2 (K + 9) := by
  obtain ⟨g1, hn⟩ := snmF_ok gs
  obtain ⟨g2, a2, b2⟩ := nextF_ok 13 gs
  have g3 := (numF_ok gs).1
  have hv := (numF_ok gs).2.1
  have P := imgP D.ok
  unfold imgK
  generalize nextF 13 s = z13 at *
  generalize numF s = zn at *
  generalize snmF s = zs at *
  split
  · try simp only
    refine ⟨⟨createA_ok D.ok _, ?_⟩, g1.mono (by omega)⟩
    unfold createA
    split
    · exact D.names
    · split
      · exact D.names
      · split
        · exact D.names
        · intro x hx
          have hx : x ∈ a.1.snaps ++ [⟨zs.1, a.1.tab⟩] := hx
          rcases List.mem_append.1 hx with hx | hx
          · exact D.names x hx
          · simp at hx; subst hx; exact hn
  · split
    · refine ⟨⟨deleteA_ok D.ok _, ?_⟩, g1.mono (by omega)⟩
      unfold deleteA
      split
      · exact D.names
      · intro x hx
        exact D.names x ((List.eraseIdx_sublist _ _).subset hx)
    · split
      · refine ⟨⟨revertA_ok D.ok _, ?_⟩, g1.mono (by omega)⟩
        unfold revertA
        split
        · exact D.names
        · exact D.names
      · split
        · exact ⟨⟨mend_ok (resize_near P (by omega)), D.names⟩, g2.mono (by omega)⟩
        · split
          · refine ⟨?_, gs.mono (by omega)⟩
            split
            · exact ⟨mend_ok (zero_near P (by omega)), D.names⟩
            · exact D
          · split
            · rename_i h
              refine ⟨?_, g3⟩
              simp only
              rw [write_same P (show g.toNat < a.1.tab.length by omega)]
              split
              · exact D
              · rename_i hc
                exact ⟨mend_ok (write_near P (by omega) (by omega) hv), D.names⟩
            · exact ⟨D, gs.mono (by omega)⟩
theorem imgG_ok {a : Img × Src} {K : Nat} (gs : SrcOK a.2 K) : SrcOK (imgG a).2 (K + 3) ∧ 0 ≤ (imgG a).1 ∧ ((imgG a).1 < a.1.tab.length ∨ (imgG a).1 = 0) := by
  unfold imgG
  split
  · obtain ⟨g1, a1, b1⟩ := nextF_ok a.1.tab.length gs
    exact ⟨g1, a1, b1⟩
  · exact ⟨gs.mono (by omega), by simp, .inr rfl⟩
theorem imgT_ok {a : Img × Src} {K : Nat} (D : DrawnI a.1) (gs : SrcOK a.2 K) : DrawnI (imgT a).1 ∧ SrcOK (imgT a).2 (K + 15) := by
  obtain ⟨g1, a1, b1⟩ := imgG_ok gs
  have g2 := (nextF_ok 9 g1).1
  have := imgK_ok (k := (nextF 9 (imgG a).2).1) D ⟨a1, b1⟩ g2
  exact ⟨this.1, this.2.mono (Nat.le_refl _)⟩
theorem imgF_ok : ∀ (l : List Unit) (a : Img × Src) (K : Nat), DrawnI a.1 → SrcOK a.2 K → DrawnI (imgF l a).1 ∧ SrcOK (imgF l a).2 (K + 15 * l.length) := by
  intro l
  induction l with
  | nil => intro a K D g; exact ⟨D, g⟩
  | cons u l ih =>
    intro a K D g
    obtain ⟨h1, h2⟩ := imgT_ok D g
    obtain ⟨h3, h4⟩ := ih (imgT a) (K + 15) h1 h2
    exact ⟨h3, h4.mono (by simp; omega)⟩
end Go.Proofs.YtndgpinhbffleaaGreat


namespace Go.Proofs.YtndgpinhbffleaaGreat
open Go
set_option maxRecDepth 100000
set_option maxHeartbeats 4000000
set_option linter.unusedSimpArgs false
set_option linter.unusedVariables false
/-- An answer that is an image by value, and a code. -/
def resE (m : Img) (c : Int) : Res := { val := .tuple [eImg m, .int .i64 c] }
theorem sWriteCluster_E (m : Img) (B : ImgB m) (g v : Int) : E CX 35 [eImg m, .int .i64 g, .int .i64 v] [] = some (if imgOK m then resE (writeA m g v).1 (writeA m g v).2 else resBad 1) := by
  have e1 := sImageOK_E m B
  cases c1 : imgOK m
  · rw [c1] at e1
    simp only [eImg] at e1
    refine E_fin Tryz.f35 _ an35 rfl rfl rfl Tryz.func35 rfl (by kernel_rfl) ?_
    simp [go_sem, eImg, e1, resBad]
  rw [c1] at e1
  have P := imgP c1
  have e2 := sOwn_E m B
  have e3 := l01In_E g 0 ((m.tab.length : Int) - 1)
  have e4 := sInt_E v
  have hB := B.tab
  cases c2 : inn g 0 ((m.tab.length : Int) - 1)
  · rw [c2] at e3
    have hz : writeA m g v = (m, 4) := by simp [writeA, c2]
    rw [hz]
    simp only [eImg, oImg, oRows, rI, rSn] at e1 e2
    refine E_fin Tryz.f35 _ an35 rfl rfl rfl Tryz.func35 rfl (by kernel_rfl) ?_
    simp [go_sem, eImg, e1, e2, e3, resE, wrap_id (n := (m.tab.length : Int) - 1) (by omega)]
  rw [c2] at e3
  cases c3 : isNum v
  · rw [c3] at e4
    have hz : writeA m g v = (m, 4) := by simp [writeA, c2, c3]
    rw [hz]
    simp only [eImg, oImg, oRows, rI, rSn] at e1 e2
    refine E_fin Tryz.f35 _ an35 rfl rfl rfl Tryz.func35 rfl (by kernel_rfl) ?_
    simp [go_sem, eImg, e1, e2, e3, e4, resE, wrap_id (n := (m.tab.length : Int) - 1) (by omega)]
  rw [c3] at e4
  obtain ⟨hg, hg0⟩ := inn_lt c2
  have e5 := sWriteX_E m P g.toNat hg v
  rw [Int.toNat_of_nonneg hg0] at e5
  have hz : writeA m g v = writeS m g.toNat v := by
    rw [write_same P hg]
    simp [writeA, c2, c3]
  rw [hz]
  generalize writeS m g.toNat v = X at *
  obtain ⟨K, c⟩ := X
  simp only [eImg, resS, oImg, oRows, rI, rSn] at e1 e5
  refine E_fin Tryz.f35 _ an35 rfl rfl rfl Tryz.func35 rfl (by kernel_rfl) ?_
  simp [go_sem, eImg, e1, e3, e4, e5, resE, wrap_id (n := (m.tab.length : Int) - 1) (by omega)]
theorem sResizeImage_E (m : Img) (B : ImgB m) (n : Int) : E CX 32 [eImg m, .int .i64 n] [] = some (if imgOK m then resE (resizeA m n).1 (resizeA m n).2 else resBad 1) := by
  have e1 := sImageOK_E m B
  cases c1 : imgOK m
  · rw [c1] at e1
    simp only [eImg] at e1
    refine E_fin Tryz.f32 _ an32 rfl rfl rfl Tryz.func32 rfl (by kernel_rfl) ?_
    simp [go_sem, eImg, e1, resBad]
  rw [c1] at e1
  have P := imgP c1
  have e2 := sOwn_E m B
  have e3 := l01In_E n 0 12
  cases c2 : inn n 0 12
  · rw [c2] at e3
    have hz : resizeA m n = (m, 4) := by simp [resizeA, c2]
    rw [hz]
    simp only [eImg, oImg, oRows, rI, rSn] at e1 e2
    refine E_fin Tryz.f32 _ an32 rfl rfl rfl Tryz.func32 rfl (by kernel_rfl) ?_
    simp [go_sem, eImg, e1, e2, e3, resE]
  rw [c2] at e3
  have hn : 0 ≤ n ∧ n ≤ 12 := by simpa [inn] using c2
  have e5 := sResizeX_E m P n.toNat (by omega)
  rw [Int.toNat_of_nonneg hn.1, resize_same P] at e5
  have hz : resizeA m n = (mend { m with tab := resz m.tab n.toNat }, 0) := by simp [resizeA, c2]
  rw [hz]
  generalize mend { m with tab := resz m.tab n.toNat } = K at *
  simp only [eImg, resM, oImg, oRows, rI, rSn] at e1 e5
  refine E_fin Tryz.f32 _ an32 rfl rfl rfl Tryz.func32 rfl (by kernel_rfl) ?_
  simp [go_sem, eImg, e1, e3, e5, resE]
end Go.Proofs.YtndgpinhbffleaaGreat


namespace Go.Proofs.YtndgpinhbffleaaGreat
open Go
set_option maxRecDepth 100000
set_option maxHeartbeats 4000000
set_option linter.unusedSimpArgs false
set_option linter.unusedVariables false
theorem delSnap_E (s : List Snp) (k : Nat) (h : s.length ≤ 1000000) (hk : k < s.length) : E CX 82 [.ref [0] 0 s.length, .int .i64 k, .int .i64 ((k : Int) + 1)] [([0], rSn s)] = some { val := .ref [0] 0 (s.length - 1), io := [⟨false, 94, 2, (s.eraseIdx k).map eSnp ++ [.agg [.str [], .nil]]⟩] } := by
  refine E_ext rfl ?_
  have hX : CX.X 82 [.ref [0] 0 s.length, .int .i64 k, .int .i64 ((k : Int) + 1)] [([0], rSn s)] = delX 94 [.ref [0] 0 s.length, .int .i64 k, .int .i64 ((k : Int) + 1)] [([0], rSn s)] := by
    rw [show CX.X = X0 from rfl]
    delta X0
    rw [if_pos rfl]
    try rw [if_neg (by decide)]
  rw [hX]
  simp [delX, rSn, h, hk, map_erase]
theorem snapDelete_E (m : Img) (B : ImgB m) (x : Tx) : E CX 28 [eImg m, .str x] [] = some (if 65536 < x.length then resBad 2 else if imgOK m then resI (deleteA m x).1 (deleteA m x).2 else resBad 1) := by
  have e1 := imageOK_E m B
  have e2 := copiedImg_E m B
  have e3 := isLongTx_E x
  have e4 := first_E [(decide (65536 < x.length), 2), (!imgOK m, 1)] (by simp)
  simp only [anys] at e4
  rw [resV_if] at e2
  obtain ⟨r, t, s, d⟩ := m
  simp only [eImg] at e1 e2
  by_cases c0 : 65536 < x.length
  · simp only [c0, decide_true, firstP] at e3 e4
    refine E_fin Tryz.f28 _ an28 rfl rfl rfl Tryz.func28 rfl (by kernel_rfl) ?_
    simp at e4
    simp [go_sem, eImg, e1, e3, e4, c0, resBad]
  simp only [c0, decide_false, firstP] at e3 e4
  cases c1 : imgOK ⟨r, t, s, d⟩
  · rw [c1] at e1 e4
    refine E_fin Tryz.f28 _ an28 rfl rfl rfl Tryz.func28 rfl (by kernel_rfl) ?_
    simp at e4
    simp [go_sem, eImg, e1, e3, e4, c0, resBad]
  rw [c1] at e1 e4
  have P := imgP c1
  simp at e4
  rw [if_neg c0, if_pos rfl]
  have e6 := snap_E ⟨r, t, s, d⟩ x (by have := P.snaps; simp only at this ⊢; omega)
  simp only [eImg] at e6
  have hz : deleteA ⟨r, t, s, d⟩ x = if findA ⟨r, t, s, d⟩ x < 0 then (⟨r, t, s, d⟩, 5) else (mend ⟨r, t, s.eraseIdx (findA ⟨r, t, s, d⟩ x).toNat, d⟩, 0) := rfl
  rw [hz]
  have hsn := P.snaps
  simp only at hsn
  rcases findA_spec ⟨r, t, s, d⟩ x with ⟨h1, _⟩ | ⟨k, h1, h2, _⟩
  · rw [h1] at e6 ⊢
    rw [if_pos (by omega)]
    simp only
    by_cases hs : s = []
    · subst hs
      simp only [List.map_nil] at e1 e2 e3 e4 e6
      simp [oImgN, oRowsN, rI, rSn] at e2
      refine E_fin Tryz.f28 _ an28 rfl rfl rfl Tryz.func28 rfl (by kernel_rfl) ?_
      simp [go_sem, eImg, e1, e2, e3, e4, e6, resI, oImgN, oRowsN, rI, rSn]
    · simp only [if_neg hs, oImg, oRows, rI, rSn] at e2
      refine E_fin Tryz.f28 _ an28 rfl rfl rfl Tryz.func28 rfl (by kernel_rfl) ?_
      simp [go_sem, eImg, e1, e2, e3, e4, e6, resI, hs, oImg, oRows, rI, rSn]
  · rw [h1] at e6 ⊢
    rw [if_neg (by omega), Int.toNat_natCast]
    have e5 := mended_near (delete_near P k)
    simp only at h2
    have hel : (s.eraseIdx k).length = s.length - 1 := by rw [List.length_eraseIdx, if_pos h2]
    have ed := delSnap_E s k (by omega) h2
    rw [resV_if] at e5
    have hKs : (mend ⟨r, t, s.eraseIdx k, d⟩).snaps = s.eraseIdx k := rfl
    simp only [eImg] at e5
    generalize mend ⟨r, t, s.eraseIdx k, d⟩ = K at *
    generalize s.eraseIdx k = L at *
    have hs : s ≠ [] := by intro h; subst h; simp at h2
    have w1 : IntKind.i64.wrap ((k : Int) + 1) = (k : Int) + 1 := wrap_id (by omega)
    have tk : (L.map eSnp ++ [AV.agg [.str [], .nil]]).take (s.length - 1) = L.map eSnp := by
      rw [List.take_append_of_le_length (by simp; omega)]
      exact List.take_of_length_le (by simp; omega)
    simp only [if_neg hs, oImg, oRows, rI, rSn] at e2
    simp only [rSn] at ed
    by_cases hL : L = []
    · subst hL
      simp at hel
      simp [hKs, oImgN, oRowsN, rI, rSn] at e5
      refine E_fin Tryz.f28 _ an28 rfl rfl rfl Tryz.func28 rfl (by kernel_rfl) ?_
      simp at tk ed
      simp [go_sem, eImg, e1, e2, e3, e4, e5, e6, ed, w1, tk, show ¬ (k : Int) < 0 by omega, resI, hKs, oImgN, oRowsN, rI, rSn]
    · simp [hKs, hL, oImg, oRows, rI, rSn] at e5
      refine E_fin Tryz.f28 _ an28 rfl rfl rfl Tryz.func28 rfl (by kernel_rfl) ?_
      simp [go_sem, eImg, e1, e2, e3, e4, e5, e6, ed, w1, tk, hel, show ¬ (k : Int) < 0 by omega, resI, hKs, hL, shares_snps hL, oImg, oRows, rI, rSn]
/-! Names as numbers. -/
def pkN : Tx → Int → Int
  | [], n => n
  | b :: r, n => pkN r (27 * n + ((b.toNat : Int) - 97) + 1)
def bnd : Nat → Int
  | 0 => 0
  | n + 1 => 27 * bnd n + 26
theorem bnd_le {n : Nat} (h : n ≤ 5) : bnd n ≤ 14348906 ∧ 0 ≤ bnd n := by
  rcases n with _ | _ | _ | _ | _ | _ | n
  · decide
  · decide
  · decide
  · decide
  · decide
  · decide
  · omega
theorem packName_E (t : Tx) (hl : t.length ≤ 6) (ht : t.all isLow = true) : E CX 96 [.str t] [] = some { val := .int .i64 (pkN t 0) } := by
  refine E_fin Tryz.f96 _ an96 rfl rfl rfl Tryz.func96 rfl (by kernel_rfl) ?_
  simp [go_sem]
  refine loop_for (fun X => fin CX _ _ X = _) t (fun n (a : Int) => 0 ≤ a ∧ a ≤ bnd n) (fun n a => ⟨SS [(0, .str t), (3, .int .i64 a), (6, .int .i64 t.length), (7, .int .i64 n)], HE⟩)
    (fun q n a => (.exit 0, ⟨SS [(3, .int .i64 (pkN q a))], HE⟩)) 0 (by simp [bnd]) ?_ ?_ ?_ ?_ ?_
  · simp [go_sem]
  · rintro R n a x q hn hx hd ⟨hI1, hI2⟩ hR
    have hx := hx hn
    have hlow : 97 ≤ x.toNat ∧ x.toNat ≤ 122 := by
      have := List.all_eq_true.1 ht x (by rw [← hx]; exact List.getElem_mem hn)
      simpa [isLow] using this
    have hb := bnd_le (show n ≤ 5 by omega)
    have hbs : bnd (n + 1) = 27 * bnd n + 26 := rfl
    have := hR (27 * a + ((x.toNat : Int) - 97) + 1) ⟨by omega, by rw [hbs]; omega⟩ rfl
    simp [go_sem] at this
    have hu : IntKind.u8.wrap ((x.toNat : Int) - 97) = (x.toNat : Int) - 97 := by rw [IntKind.wrap_u8]; omega
    simp [go_sem, hn, hx, hu, wrap_id (n := (x.toNat : Int) - 97) (by omega), wrap_id (n := 27 * a) (by omega), wrap_id (n := 27 * a + ((x.toNat : Int) - 97)) (by omega), wrap_id (n := 27 * a + ((x.toNat : Int) - 97) + 1) (by omega), wrap_id (n := (n : Int) + 1) (by omega)]
    exact this
  · intro a hI; simp [go_sem, pkN]
  · intro _; simp
  · simp [go_sem]
theorem sPackName_E (t : Tx) (hl : t.length ≤ 6) (ht : t.all isLow = true) : E CX 98 [.str t] [] = some { val := .int .i64 (pkN t 0) } := by
  refine E_fin Tryz.f98 _ an98 rfl rfl rfl Tryz.func98 rfl (by kernel_rfl) ?_
  simp [go_sem]
  refine loop_for (fun X => fin CX _ _ X = _) t (fun n (a : Int) => 0 ≤ a ∧ a ≤ bnd n) (fun n a => ⟨SS [(0, .str t), (3, .int .i64 a), (4, .int .i64 n)], HE⟩)
    (fun q n a => (.exit 0, ⟨SS [(3, .int .i64 (pkN q a))], HE⟩)) 0 (by simp [bnd]) ?_ ?_ ?_ ?_ ?_
  · simp [go_sem]
  · rintro R n a x q hn hx hd ⟨hI1, hI2⟩ hR
    have hx := hx hn
    have hlow : 97 ≤ x.toNat ∧ x.toNat ≤ 122 := by
      have := List.all_eq_true.1 ht x (by rw [← hx]; exact List.getElem_mem hn)
      simpa [isLow] using this
    have hb := bnd_le (show n ≤ 5 by omega)
    have hbs : bnd (n + 1) = 27 * bnd n + 26 := rfl
    have := hR (27 * a + ((x.toNat : Int) - 97) + 1) ⟨by omega, by rw [hbs]; omega⟩ rfl
    simp [go_sem] at this
    have hu : IntKind.u8.wrap ((x.toNat : Int) - 97) = (x.toNat : Int) - 97 := by rw [IntKind.wrap_u8]; omega
    simp [go_sem, hn, hx, hu, wrap_id (n := (x.toNat : Int) - 97) (by omega), wrap_id (n := 27 * a) (by omega), wrap_id (n := 27 * a + ((x.toNat : Int) - 97)) (by omega), wrap_id (n := 27 * a + ((x.toNat : Int) - 97) + 1) (by omega), wrap_id (n := (n : Int) + 1) (by omega)]
    exact this
  · intro a hI; simp [go_sem, pkN]
  · intro _; simp
  · simp [go_sem]
theorem packNameX_E (t : Tx) (h : snameOK t = true) : E CX 40 [.str t] [] = some { val := .tuple [.int .i64 (pkN t 0), .int .i64 0] } := by
  have hl := sname_len h
  have e1 := isLongTx_E t
  have e2 := snapNameOK_E t (by omega)
  have e3 := first_E [(false, 2), (false, 12)] (by simp)
  have e4 := packName_E t hl.2 (by simp only [snameOK, Bool.and_eq_true] at h; exact h.1)
  rw [h] at e2
  simp [anys, firstP] at e3
  rw [decide_eq_false (by omega)] at e1
  refine E_fin Tryz.f40 _ an40 rfl rfl rfl Tryz.func40 rfl (by kernel_rfl) ?_
  simp [go_sem, e1, e2, e3, e4]
theorem sPackNameX_E (t : Tx) (h : snameOK t = true) : E CX 41 [.str t] [] = some { val := .tuple [.int .i64 (pkN t 0), .int .i64 0] } := by
  have hl := sname_len h
  have e2 := sName_E t (by omega)
  have e4 := sPackName_E t hl.2 (by simp only [snameOK, Bool.and_eq_true] at h; exact h.1)
  rw [h] at e2
  refine E_fin Tryz.f41 _ an41 rfl rfl rfl Tryz.func41 rfl (by kernel_rfl) ?_
  simp [go_sem, e2, e4, show ¬ (65536 : Int) < t.length by omega]
theorem snapNameOf_E (bs : List Int) (h : bs.length ≤ 1073741824) (hb : ∀ b ∈ bs, 0 ≤ b ∧ b < 256) : ∃ x : Tx, E CX 36 [.sl 1 (bs.map (.int .u8))] [] = some { val := .str x } ∧ x ∈ snapNs := by
  have e1 := l00Source_E bs h
  have g := source_ok bs h hb
  have e2 := snapName_E _ 0 (by omega) g
  refine ⟨_, ?_, (snmF_ok g).2⟩
  simp only [eSrc] at e1 e2
  rw [show ((0 : Nat) : Int) = 0 from rfl] at e1 e2
  refine E_fin Tryz.f36 _ an36 rfl rfl rfl Tryz.func36 rfl (by kernel_rfl) ?_
  simp [go_sem, e1, e2]
theorem l10Text_E (m : Img) (ok : imgOK m = true) (x : Tx) (hx : x.length ≤ 6) : E CX 92 [eImg m, .str x] [] = some { val := .int .i64 0 } := by
  have e1 := sImageOK_E m (imgP ok).b
  rw [ok] at e1
  simp only [eImg] at e1
  refine E_fin Tryz.f92 _ an92 rfl rfl rfl Tryz.func92 rfl (by kernel_rfl) ?_
  simp [go_sem, eImg, e1, show ¬ (65536 : Int) < x.length by omega]
theorem sSnapCreate_E (m : Img) (ok : imgOK m = true) (x : Tx) (hx : x.length ≤ 6) : E CX 37 [eImg m, .str x] [] = some (resE (createA m x).1 (createA m x).2) := by
  have e1 := l10Text_E m ok x hx
  have e2 := sCreateX_E m (imgP ok) x (by omega)
  generalize createA m x = X at *
  obtain ⟨K, c⟩ := X
  simp only [eImg, resS, oImg, oRows, rI, rSn] at e1 e2
  refine E_fin Tryz.f37 _ an37 rfl rfl rfl Tryz.func37 rfl (by kernel_rfl) ?_
  simp [go_sem, eImg, e1, e2, resE, show ¬ (65536 : Int) < x.length by omega]
theorem sSnapDelete_E (m : Img) (ok : imgOK m = true) (x : Tx) (hx : x.length ≤ 6) : E CX 38 [eImg m, .str x] [] = some (resE (deleteA m x).1 (deleteA m x).2) := by
  have e1 := l10Text_E m ok x hx
  have e2 := sDeleteX_E m (imgP ok) x
  generalize deleteA m x = X at *
  obtain ⟨K, c⟩ := X
  simp only [eImg, resS, oImg, oRows, rI, rSn] at e1 e2
  refine E_fin Tryz.f38 _ an38 rfl rfl rfl Tryz.func38 rfl (by kernel_rfl) ?_
  simp [go_sem, eImg, e1, e2, resE, show ¬ (65536 : Int) < x.length by omega]
theorem sSnapRevert_E (m : Img) (ok : imgOK m = true) (x : Tx) (hx : x.length ≤ 6) : E CX 39 [eImg m, .str x] [] = some (resE (revertA m x).1 (revertA m x).2) := by
  have e1 := l10Text_E m ok x hx
  have e2 := sRevertX_E m (imgP ok) x
  generalize revertA m x = X at *
  obtain ⟨K, c⟩ := X
  simp only [eImg, resS, oImg, oRows, rI, rSn] at e1 e2
  refine E_fin Tryz.f39 _ an39 rfl rfl rfl Tryz.func39 rfl (by kernel_rfl) ?_
  simp [go_sem, eImg, e1, e2, resE, show ¬ (65536 : Int) < x.length by omega]
end Go.Proofs.YtndgpinhbffleaaGreat


namespace Go.Proofs.YtndgpinhbffleaaGreat
open Go
set_option maxRecDepth 100000
set_option maxHeartbeats 8000000
set_option linter.unusedSimpArgs false
set_option linter.unusedVariables false
def imgSt (v : Int) (n : Nat) (a : Img × Src) : St := ⟨SS [(0, .ptr [0] 0 0), (2, .ptr [2] 0 0), (3, .ptr [3] 0 0), (4, .int .i64 (v - n))], HS [([0], eSrc a.2), ([2], ⟨true, 26, 4, [.agg [.nil, .nil, .nil, .nil]]⟩), ([3], ⟨true, 26, 4, [eImg a.1]⟩)]⟩
def imgSX (a : Img × Src) : St := ⟨SS [(2, .ptr [2] 0 0), (3, .ptr [3] 0 0)], HS [([2], ⟨true, 26, 4, [.agg [.nil, .nil, .nil, .nil]]⟩), ([3], ⟨true, 26, 4, [eImg a.1]⟩), ([0], eSrc a.2)]⟩
theorem image_E (s : Src) (k : Nat) (hk : k ≤ 500000000) (g : SrcOK s k) : ∃ (m : Img) (s' : Src), E CX 72 [.ptr [0] 0 0] [([0], eSrc s)] = some { val := oImg m, io := [eSrc s'], own := oRows m } ∧ DrawnI m ∧ SrcOK s' (k + 1000) := by
  obtain ⟨g1, a1, b1⟩ := nextF_ok 13 g
  have d1 := next_E 13 s k (by omega) g
  obtain ⟨g2, a2, b2⟩ := nextF_ok 2 g1
  have d2 := chance2_E (nextF 13 s).2 (k + 3) (by omega) g1
  obtain ⟨g3, a3, b3⟩ := nextF_ok 7 g2
  have d3 := next_E 7 (nextF 2 (nextF 13 s).2).2 (k + 3 + 3) (by omega) g2
  rcases Classical.em ((nextF 2 (nextF 13 s).2).1 = 1) with hb | hb
  · have dn := sNew_E (nextF 13 s).1.toNat (by omega)
    rw [Int.toNat_of_nonneg a1] at dn
    have dn2 := sNew_E (6 + (nextF 7 (nextF 2 (nextF 13 s).2).2).1.toNat) (by omega)
    rw [show ((6 + (nextF 7 (nextF 2 (nextF 13 s).2).2).1.toNat : Nat) : Int) = 6 + (nextF 7 (nextF 2 (nextF 13 s).2).2).1 by omega] at dn2
    have hD := newI_drawn ((6 + (nextF 7 (nextF 2 (nextF 13 s).2).2).1.toNat)) (by omega)
    have hL : (newI (6 + (nextF 7 (nextF 2 (nextF 13 s).2).2).1.toNat)).tab.length ≤ 12 := tabOK_len (imgP hD.ok).tab.1
    have gs : SrcOK ((nextF 7 (nextF 2 (nextF 13 s).2).2).2) (k + 9) := g3.mono (by omega)
    have dz := size_E ((nextF 7 (nextF 2 (nextF 13 s).2).2).2) 20 (k + 9) gs
    have hsz : 0 ≤ sizeF ((nextF 7 (nextF 2 (nextF 13 s).2).2).2) 20 ∧ sizeF ((nextF 7 (nextF 2 (nextF 13 s).2).2).2) 20 ≤ 20 := by
      unfold sizeF
      have : 0 ≤ (((nextF 7 (nextF 2 (nextF 13 s).2).2).2).bs.length : Int).tdiv 12 := by rw [Int.tdiv_eq_ediv_of_nonneg (by omega)]; omega
      split <;> omega
    have dk := next_E (sizeF ((nextF 7 (nextF 2 (nextF 13 s).2).2).2) 20 + 12) ((nextF 7 (nextF 2 (nextF 13 s).2).2).2) (k + 9) (by omega) gs
    obtain ⟨g4, a4, b4⟩ := nextF_ok (sizeF ((nextF 7 (nextF 2 (nextF 13 s).2).2).2) 20 + 12) gs
    have hlv : (nextF (sizeF ((nextF 7 (nextF 2 (nextF 13 s).2).2).2) 20 + 12) ((nextF 7 (nextF 2 (nextF 13 s).2).2).2)).1 ≤ 40 := by omega
    generalize hu : nextF (sizeF ((nextF 7 (nextF 2 (nextF 13 s).2).2).2) 20 + 12) ((nextF 7 (nextF 2 (nextF 13 s).2).2).2) = u at *
    obtain ⟨v, sv⟩ := u
    simp only at g4 a4 hlv dk
    obtain ⟨l, hl, hl2⟩ : ∃ l : List Unit, l = List.replicate v.toNat () ∧ l.length = v.toNat := ⟨_, rfl, by simp⟩
    clear hl
    have hfin := imgF_ok l (newI (6 + (nextF 7 (nextF 2 (nextF 13 s).2).2).1.toNat), sv) (k + 12) hD (g4.mono (by omega))
    have ho := sOwn_E (imgF l (newI (6 + (nextF 7 (nextF 2 (nextF 13 s).2).2).1.toNat), sv)).1 (imgP hfin.1.ok).b
    refine ⟨(imgF l (newI (6 + (nextF 7 (nextF 2 (nextF 13 s).2).2).1.toNat), sv)).1, (imgF l (newI (6 + (nextF 7 (nextF 2 (nextF 13 s).2).2).1.toNat), sv)).2, ?_, hfin.1, hfin.2.mono (by omega)⟩
    simp only [eSrc, oImg, oRows, newI, rI, rSn] at d1 d2 d3 dn dn2 dz dk
    refine E_fin Tryz.f72 _ an72 rfl rfl rfl Tryz.func72 rfl (by kernel_rfl) ?_
    simp [go_sem, eSrc, d1, d2, d3, dn, dn2, dz, dk, hb, wrap_id (n := sizeF ((nextF 7 (nextF 2 (nextF 13 s).2).2).2) 20 + 12) (by omega), wrap_id (n := 6 + (nextF 7 (nextF 2 (nextF 13 s).2).2).1) (by omega), -List.reduceReplicate]
    refine loop_for (fun X => fin CX _ _ X = _) l (fun n a => DrawnI a.1 ∧ SrcOK a.2 (k + 12 + 15 * n)) (fun n a => imgSt v n a) (fun r n a => (.exit 0, imgSX (imgF r a))) (newI (6 + (nextF 7 (nextF 2 (nextF 13 s).2).2).1.toNat), sv) ⟨hD, g4.mono (by omega)⟩ ?_ ?_ ?_ ?_ ?_
    · simp [go_sem, imgSt, eSrc, eImg, newI, -List.reduceReplicate]
    · intro R n a x r hn hx hd ⟨hI1, hI2⟩ hR
      obtain ⟨m, s1⟩ := a
      simp only at hI1 hI2
      have P := imgP hI1.ok
      have hT := imgT_ok (a := (m, s1)) hI1 hI2
      have hRR := hR (imgT (m, s1)) ⟨hT.1, hT.2.mono (by omega)⟩ rfl
      have hTe : imgT (m, s1) = imgK (m, s1) (imgG (m, s1)).1 (nextF 9 (imgG (m, s1)).2).1 (nextF 9 (imgG (m, s1)).2).2 := rfl
      have hend : ∃ E, (some ((fun (r : List Unit) (n : Nat) (a : Img × Src) => ((.exit 0, imgSX (imgF r a)) : Ex × St)) (x :: r) n (m, s1)) : Out) = E := ⟨_, rfl⟩
      obtain ⟨EE, hend⟩ := hend
      rw [hend]
      clear hend
      obtain ⟨gg, ga, gb⟩ := imgG_ok (a := (m, s1)) hI2
      have e2 := next_E 9 (imgG (m, s1)).2 _ (by omega) gg
      obtain ⟨gk, ka, kb⟩ := nextF_ok 9 gg
      have hG : imgG (m, s1) = if 0 < m.tab.length then nextF m.tab.length s1 else (0, s1) := rfl
      have eN := next_E m.tab.length s1 _ (by omega) hI2
      rw [hTe] at hRR
      clear hT hTe hR hfin ho hD d1 d2 d3 dn dz dk
      generalize imgG (m, s1) = u at *
      obtain ⟨gv, s2⟩ := u
      simp only at e2 gg ga gb gk ka kb hRR
      generalize nextF 9 s2 = w at *
      obtain ⟨kv, s3⟩ := w
      simp only at e2 gk ka kb hRR
      unfold imgK at hRR
      simp only at hRR
      by_cases c : 0 < m.tab.length
      · have c' : (0 : Int) < m.tab.length := by omega
        rw [if_pos c] at hG
        have e1 := eN
        rw [← hG] at e1
        simp only at e1 gb
        by_cases hk0 : kv = 0
        · rw [if_pos hk0] at hRR
          have e3 := snapName_E s3 _ (by omega) gk
          have hnm := snap_ok (snmF_ok gk).2
          have e4 := sCreateX_E m P (snmF s3).1 (by have := hnm.2; omega)
          generalize snmF s3 = y at *
          obtain ⟨yn, s4⟩ := y
          simp only at e4 e3 hRR
          generalize createA m yn = q at *
          obtain ⟨M, cM⟩ := q
          simp only [resS, resM, oImg, oRows, rI, rSn, eImg, eSrc] at e2 e1 e3 e4
          simp [go_sem, imgSt, eSrc, eImg, show v - ((n : Int) + 1) = v - n - 1 by omega] at hRR
          simp [go_sem, imgSt, imgSX, eSrc, eImg, e2, e1, e3, e4, c, c', hk0, show (n : Int) < v by omega, show (0 : Int) < v - n by omega, wrap_id (n := v - (n : Int) - 1) (by omega)]
          exact hRR
        by_cases hk1 : kv = 1
        · rw [if_neg hk0, if_pos hk1] at hRR
          have e3 := snapName_E s3 _ (by omega) gk
          have hnm := snap_ok (snmF_ok gk).2
          have e4 := sDeleteX_E m P (snmF s3).1
          generalize snmF s3 = y at *
          obtain ⟨yn, s4⟩ := y
          simp only at e4 e3 hRR
          generalize deleteA m yn = q at *
          obtain ⟨M, cM⟩ := q
          simp only [resS, resM, oImg, oRows, rI, rSn, eImg, eSrc] at e2 e1 e3 e4
          simp [go_sem, imgSt, eSrc, eImg, show v - ((n : Int) + 1) = v - n - 1 by omega] at hRR
          simp [go_sem, imgSt, imgSX, eSrc, eImg, e2, e1, e3, e4, c, c', hk0, hk1, show (n : Int) < v by omega, show (0 : Int) < v - n by omega, wrap_id (n := v - (n : Int) - 1) (by omega)]
          exact hRR
        by_cases hk2 : kv = 2
        · rw [if_neg hk0, if_neg hk1, if_pos hk2] at hRR
          have e3 := snapName_E s3 _ (by omega) gk
          have hnm := snap_ok (snmF_ok gk).2
          have e4 := sRevertX_E m P (snmF s3).1
          generalize snmF s3 = y at *
          obtain ⟨yn, s4⟩ := y
          simp only at e4 e3 hRR
          generalize revertA m yn = q at *
          obtain ⟨M, cM⟩ := q
          simp only [resS, resM, oImg, oRows, rI, rSn, eImg, eSrc] at e2 e1 e3 e4
          simp [go_sem, imgSt, eSrc, eImg, show v - ((n : Int) + 1) = v - n - 1 by omega] at hRR
          simp [go_sem, imgSt, imgSX, eSrc, eImg, e2, e1, e3, e4, c, c', hk0, hk1, hk2, show (n : Int) < v by omega, show (0 : Int) < v - n by omega, wrap_id (n := v - (n : Int) - 1) (by omega)]
          exact hRR
        by_cases hk3 : kv = 3
        · rw [if_neg hk0, if_neg hk1, if_neg hk2, if_pos hk3] at hRR
          have e3 := next_E 13 s3 _ (by omega) gk
          obtain ⟨_, za, zb⟩ := nextF_ok 13 gk
          have e4 := sResizeX_E m P (nextF 13 s3).1.toNat (by omega)
          rw [resize_same P, Int.toNat_of_nonneg za] at e4
          generalize nextF 13 s3 = y at *
          obtain ⟨yn, s4⟩ := y
          simp only at e4 e3 hRR
          generalize mend { m with tab := resz m.tab yn.toNat } = M at *
          simp only [resS, resM, oImg, oRows, rI, rSn, eImg, eSrc] at e2 e1 e3 e4
          simp [go_sem, imgSt, eSrc, eImg, show v - ((n : Int) + 1) = v - n - 1 by omega] at hRR
          simp [go_sem, imgSt, imgSX, eSrc, eImg, e2, e1, e3, e4, c, c', hk0, hk1, hk2, hk3, show (n : Int) < v by omega, show (0 : Int) < v - n by omega, wrap_id (n := v - (n : Int) - 1) (by omega)]
          exact hRR
        by_cases hk4 : kv = 4
        · rw [if_neg hk0, if_neg hk1, if_neg hk2, if_neg hk3, if_pos hk4] at hRR
          rw [if_pos c] at hRR
          have e4 := sZeroX_E m P gv.toNat (by omega)
          rw [zero_same P (by omega), Int.toNat_of_nonneg ga] at e4
          generalize mend { m with tab := m.tab.set gv.toNat 1 } = M at *
          simp only [resS, resM, oImg, oRows, rI, rSn, eImg, eSrc] at e2 e1 e4
          simp [go_sem, imgSt, eSrc, eImg, show v - ((n : Int) + 1) = v - n - 1 by omega] at hRR
          simp [go_sem, imgSt, imgSX, eSrc, eImg, e2, e1, e4, c, c', hk0, hk1, hk2, hk3, hk4, show (n : Int) < v by omega, show (0 : Int) < v - n by omega, wrap_id (n := v - (n : Int) - 1) (by omega)]
          exact hRR
        rw [if_neg hk0, if_neg hk1, if_neg hk2, if_neg hk3, if_neg hk4] at hRR
        rw [if_pos c] at hRR
        have e3 := number_E s3 _ (by omega) gk
        have e4 := sWriteX_E m P gv.toNat (by omega) (numF s3).1
        rw [Int.toNat_of_nonneg ga] at e4
        generalize numF s3 = y at *
        obtain ⟨yn, s4⟩ := y
        simp only at e4 e3 hRR
        generalize writeS m gv.toNat yn = q at *
        obtain ⟨M, cM⟩ := q
        simp only [resS, resM, oImg, oRows, rI, rSn, eImg, eSrc] at e2 e1 e3 e4
        simp [go_sem, imgSt, eSrc, eImg, show v - ((n : Int) + 1) = v - n - 1 by omega] at hRR
        simp [go_sem, imgSt, imgSX, eSrc, eImg, e2, e1, e3, e4, c, c', hk0, hk1, hk2, hk3, hk4, show (n : Int) < v by omega, show (0 : Int) < v - n by omega, wrap_id (n := v - (n : Int) - 1) (by omega)]
        exact hRR
      · have c' : ¬ (0 : Int) < m.tab.length := by omega
        rw [if_neg c] at hG
        injection hG with hG1 hG2
        subst hG1; subst hG2
        by_cases hk0 : kv = 0
        · rw [if_pos hk0] at hRR
          have e3 := snapName_E s3 _ (by omega) gk
          have hnm := snap_ok (snmF_ok gk).2
          have e4 := sCreateX_E m P (snmF s3).1 (by have := hnm.2; omega)
          generalize snmF s3 = y at *
          obtain ⟨yn, s4⟩ := y
          simp only at e4 e3 hRR
          generalize createA m yn = q at *
          obtain ⟨M, cM⟩ := q
          simp only [resS, resM, oImg, oRows, rI, rSn, eImg, eSrc] at e2 e3 e4
          simp [go_sem, imgSt, eSrc, eImg, show v - ((n : Int) + 1) = v - n - 1 by omega] at hRR
          simp [go_sem, imgSt, imgSX, eSrc, eImg, e2, e3, e4, c, c', hk0, show (n : Int) < v by omega, show (0 : Int) < v - n by omega, wrap_id (n := v - (n : Int) - 1) (by omega)]
          exact hRR
        by_cases hk1 : kv = 1
        · rw [if_neg hk0, if_pos hk1] at hRR
          have e3 := snapName_E s3 _ (by omega) gk
          have hnm := snap_ok (snmF_ok gk).2
          have e4 := sDeleteX_E m P (snmF s3).1
          generalize snmF s3 = y at *
          obtain ⟨yn, s4⟩ := y
          simp only at e4 e3 hRR
          generalize deleteA m yn = q at *
          obtain ⟨M, cM⟩ := q
          simp only [resS, resM, oImg, oRows, rI, rSn, eImg, eSrc] at e2 e3 e4
          simp [go_sem, imgSt, eSrc, eImg, show v - ((n : Int) + 1) = v - n - 1 by omega] at hRR
          simp [go_sem, imgSt, imgSX, eSrc, eImg, e2, e3, e4, c, c', hk0, hk1, show (n : Int) < v by omega, show (0 : Int) < v - n by omega, wrap_id (n := v - (n : Int) - 1) (by omega)]
          exact hRR
        by_cases hk2 : kv = 2
        · rw [if_neg hk0, if_neg hk1, if_pos hk2] at hRR
          have e3 := snapName_E s3 _ (by omega) gk
          have hnm := snap_ok (snmF_ok gk).2
          have e4 := sRevertX_E m P (snmF s3).1
          generalize snmF s3 = y at *
          obtain ⟨yn, s4⟩ := y
          simp only at e4 e3 hRR
          generalize revertA m yn = q at *
          obtain ⟨M, cM⟩ := q
          simp only [resS, resM, oImg, oRows, rI, rSn, eImg, eSrc] at e2 e3 e4
          simp [go_sem, imgSt, eSrc, eImg, show v - ((n : Int) + 1) = v - n - 1 by omega] at hRR
          simp [go_sem, imgSt, imgSX, eSrc, eImg, e2, e3, e4, c, c', hk0, hk1, hk2, show (n : Int) < v by omega, show (0 : Int) < v - n by omega, wrap_id (n := v - (n : Int) - 1) (by omega)]
          exact hRR
        by_cases hk3 : kv = 3
        · rw [if_neg hk0, if_neg hk1, if_neg hk2, if_pos hk3] at hRR
          have e3 := next_E 13 s3 _ (by omega) gk
          obtain ⟨_, za, zb⟩ := nextF_ok 13 gk
          have e4 := sResizeX_E m P (nextF 13 s3).1.toNat (by omega)
          rw [resize_same P, Int.toNat_of_nonneg za] at e4
          generalize nextF 13 s3 = y at *
          obtain ⟨yn, s4⟩ := y
          simp only at e4 e3 hRR
          generalize mend { m with tab := resz m.tab yn.toNat } = M at *
          simp only [resS, resM, oImg, oRows, rI, rSn, eImg, eSrc] at e2 e3 e4
          simp [go_sem, imgSt, eSrc, eImg, show v - ((n : Int) + 1) = v - n - 1 by omega] at hRR
          simp [go_sem, imgSt, imgSX, eSrc, eImg, e2, e3, e4, c, c', hk0, hk1, hk2, hk3, show (n : Int) < v by omega, show (0 : Int) < v - n by omega, wrap_id (n := v - (n : Int) - 1) (by omega)]
          exact hRR
        by_cases hk4 : kv = 4
        · rw [if_neg hk0, if_neg hk1, if_neg hk2, if_neg hk3, if_pos hk4] at hRR
          rw [if_neg c] at hRR
          simp only [resS, resM, oImg, oRows, rI, rSn, eImg, eSrc] at e2
          simp [go_sem, imgSt, eSrc, eImg, show v - ((n : Int) + 1) = v - n - 1 by omega] at hRR
          simp [go_sem, imgSt, imgSX, eSrc, eImg, e2, c, c', hk0, hk1, hk2, hk3, hk4, show (n : Int) < v by omega, show (0 : Int) < v - n by omega, wrap_id (n := v - (n : Int) - 1) (by omega)]
          exact hRR
        rw [if_neg hk0, if_neg hk1, if_neg hk2, if_neg hk3, if_neg hk4] at hRR
        rw [if_neg c] at hRR
        simp only [resS, resM, oImg, oRows, rI, rSn, eImg, eSrc] at e2
        simp [go_sem, imgSt, eSrc, eImg, show v - ((n : Int) + 1) = v - n - 1 by omega] at hRR
        simp [go_sem, imgSt, imgSX, eSrc, eImg, e2, c, c', hk0, hk1, hk2, hk3, hk4, show (n : Int) < v by omega, show (0 : Int) < v - n by omega, wrap_id (n := v - (n : Int) - 1) (by omega)]
        exact hRR
    · intro a hI
      have : v - (l.length : Int) = 0 := by omega
      simp [go_sem, imgF, imgSt, imgSX, eSrc, eImg, this]
    · intro _; simp
    · simp only [eImg, oImg, oRows, rI, rSn] at ho
      simp [go_sem, imgSX, eSrc, eImg, oImg, oRows, rI, rSn, ho]
  · have dn := sNew_E (nextF 13 s).1.toNat (by omega)
    rw [Int.toNat_of_nonneg a1] at dn
    have hD := newI_drawn ((nextF 13 s).1.toNat) (by omega)
    have hL : (newI (nextF 13 s).1.toNat).tab.length ≤ 12 := tabOK_len (imgP hD.ok).tab.1
    have gs : SrcOK ((nextF 2 (nextF 13 s).2).2) (k + 9) := g2.mono (by omega)
    have dz := size_E ((nextF 2 (nextF 13 s).2).2) 20 (k + 9) gs
    have hsz : 0 ≤ sizeF ((nextF 2 (nextF 13 s).2).2) 20 ∧ sizeF ((nextF 2 (nextF 13 s).2).2) 20 ≤ 20 := by
      unfold sizeF
      have : 0 ≤ (((nextF 2 (nextF 13 s).2).2).bs.length : Int).tdiv 12 := by rw [Int.tdiv_eq_ediv_of_nonneg (by omega)]; omega
      split <;> omega
    have dk := next_E (sizeF ((nextF 2 (nextF 13 s).2).2) 20 + 12) ((nextF 2 (nextF 13 s).2).2) (k + 9) (by omega) gs
    obtain ⟨g4, a4, b4⟩ := nextF_ok (sizeF ((nextF 2 (nextF 13 s).2).2) 20 + 12) gs
    have hlv : (nextF (sizeF ((nextF 2 (nextF 13 s).2).2) 20 + 12) ((nextF 2 (nextF 13 s).2).2)).1 ≤ 40 := by omega
    generalize hu : nextF (sizeF ((nextF 2 (nextF 13 s).2).2) 20 + 12) ((nextF 2 (nextF 13 s).2).2) = u at *
    obtain ⟨v, sv⟩ := u
    simp only at g4 a4 hlv dk
    obtain ⟨l, hl, hl2⟩ : ∃ l : List Unit, l = List.replicate v.toNat () ∧ l.length = v.toNat := ⟨_, rfl, by simp⟩
    clear hl
    have hfin := imgF_ok l (newI (nextF 13 s).1.toNat, sv) (k + 12) hD (g4.mono (by omega))
    have ho := sOwn_E (imgF l (newI (nextF 13 s).1.toNat, sv)).1 (imgP hfin.1.ok).b
    refine ⟨(imgF l (newI (nextF 13 s).1.toNat, sv)).1, (imgF l (newI (nextF 13 s).1.toNat, sv)).2, ?_, hfin.1, hfin.2.mono (by omega)⟩
    simp only [eSrc, oImg, oRows, newI, rI, rSn] at d1 d2 d3 dn dz dk
    refine E_fin Tryz.f72 _ an72 rfl rfl rfl Tryz.func72 rfl (by kernel_rfl) ?_
    simp [go_sem, eSrc, d1, d2, d3, dn, dz, dk, hb, wrap_id (n := sizeF ((nextF 2 (nextF 13 s).2).2) 20 + 12) (by omega), -List.reduceReplicate]
    refine loop_for (fun X => fin CX _ _ X = _) l (fun n a => DrawnI a.1 ∧ SrcOK a.2 (k + 12 + 15 * n)) (fun n a => imgSt v n a) (fun r n a => (.exit 0, imgSX (imgF r a))) (newI (nextF 13 s).1.toNat, sv) ⟨hD, g4.mono (by omega)⟩ ?_ ?_ ?_ ?_ ?_
    · simp [go_sem, imgSt, eSrc, eImg, newI, -List.reduceReplicate]
    · intro R n a x r hn hx hd ⟨hI1, hI2⟩ hR
      obtain ⟨m, s1⟩ := a
      simp only at hI1 hI2
      have P := imgP hI1.ok
      have hT := imgT_ok (a := (m, s1)) hI1 hI2
      have hRR := hR (imgT (m, s1)) ⟨hT.1, hT.2.mono (by omega)⟩ rfl
      have hTe : imgT (m, s1) = imgK (m, s1) (imgG (m, s1)).1 (nextF 9 (imgG (m, s1)).2).1 (nextF 9 (imgG (m, s1)).2).2 := rfl
      have hend : ∃ E, (some ((fun (r : List Unit) (n : Nat) (a : Img × Src) => ((.exit 0, imgSX (imgF r a)) : Ex × St)) (x :: r) n (m, s1)) : Out) = E := ⟨_, rfl⟩
      obtain ⟨EE, hend⟩ := hend
      rw [hend]
      clear hend
      obtain ⟨gg, ga, gb⟩ := imgG_ok (a := (m, s1)) hI2
      have e2 := next_E 9 (imgG (m, s1)).2 _ (by omega) gg
      obtain ⟨gk, ka, kb⟩ := nextF_ok 9 gg
      have hG : imgG (m, s1) = if 0 < m.tab.length then nextF m.tab.length s1 else (0, s1) := rfl
      have eN := next_E m.tab.length s1 _ (by omega) hI2
      rw [hTe] at hRR
      clear hT hTe hR hfin ho hD d1 d2 d3 dn dz dk
      generalize imgG (m, s1) = u at *
      obtain ⟨gv, s2⟩ := u
      simp only at e2 gg ga gb gk ka kb hRR
      generalize nextF 9 s2 = w at *
      obtain ⟨kv, s3⟩ := w
      simp only at e2 gk ka kb hRR
      unfold imgK at hRR
      simp only at hRR
      by_cases c : 0 < m.tab.length
      · have c' : (0 : Int) < m.tab.length := by omega
        rw [if_pos c] at hG
        have e1 := eN
        rw [← hG] at e1
        simp only at e1 gb
        by_cases hk0 : kv = 0
        · rw [if_pos hk0] at hRR
          have e3 := snapName_E s3 _ (by omega) gk
          have hnm := snap_ok (snmF_ok gk).2
          have e4 := sCreateX_E m P (snmF s3).1 (by have := hnm.2; omega)
          generalize snmF s3 = y at *
          obtain ⟨yn, s4⟩ := y
          simp only at e4 e3 hRR
          generalize createA m yn = q at *
          obtain ⟨M, cM⟩ := q
          simp only [resS, resM, oImg, oRows, rI, rSn, eImg, eSrc] at e2 e1 e3 e4
          simp [go_sem, imgSt, eSrc, eImg, show v - ((n : Int) + 1) = v - n - 1 by omega] at hRR
          simp [go_sem, imgSt, imgSX, eSrc, eImg, e2, e1, e3, e4, c, c', hk0, show (n : Int) < v by omega, show (0 : Int) < v - n by omega, wrap_id (n := v - (n : Int) - 1) (by omega)]
          exact hRR
        by_cases hk1 : kv = 1
        · rw [if_neg hk0, if_pos hk1] at hRR
          have e3 := snapName_E s3 _ (by omega) gk
          have hnm := snap_ok (snmF_ok gk).2
          have e4 := sDeleteX_E m P (snmF s3).1
          generalize snmF s3 = y at *
          obtain ⟨yn, s4⟩ := y
          simp only at e4 e3 hRR
          generalize deleteA m yn = q at *
          obtain ⟨M, cM⟩ := q
          simp only [resS, resM, oImg, oRows, rI, rSn, eImg, eSrc] at e2 e1 e3 e4
          simp [go_sem, imgSt, eSrc, eImg, show v - ((n : Int) + 1) = v - n - 1 by omega] at hRR
          simp [go_sem, imgSt, imgSX, eSrc, eImg, e2, e1, e3, e4, c, c', hk0, hk1, show (n : Int) < v by omega, show (0 : Int) < v - n by omega, wrap_id (n := v - (n : Int) - 1) (by omega)]
          exact hRR
        by_cases hk2 : kv = 2
        · rw [if_neg hk0, if_neg hk1, if_pos hk2] at hRR
          have e3 := snapName_E s3 _ (by omega) gk
          have hnm := snap_ok (snmF_ok gk).2
          have e4 := sRevertX_E m P (snmF s3).1
          generalize snmF s3 = y at *
          obtain ⟨yn, s4⟩ := y
          simp only at e4 e3 hRR
          generalize revertA m yn = q at *
          obtain ⟨M, cM⟩ := q
          simp only [resS, resM, oImg, oRows, rI, rSn, eImg, eSrc] at e2 e1 e3 e4
          simp [go_sem, imgSt, eSrc, eImg, show v - ((n : Int) + 1) = v - n - 1 by omega] at hRR
          simp [go_sem, imgSt, imgSX, eSrc, eImg, e2, e1, e3, e4, c, c', hk0, hk1, hk2, show (n : Int) < v by omega, show (0 : Int) < v - n by omega, wrap_id (n := v - (n : Int) - 1) (by omega)]
          exact hRR
        by_cases hk3 : kv = 3
        · rw [if_neg hk0, if_neg hk1, if_neg hk2, if_pos hk3] at hRR
          have e3 := next_E 13 s3 _ (by omega) gk
          obtain ⟨_, za, zb⟩ := nextF_ok 13 gk
          have e4 := sResizeX_E m P (nextF 13 s3).1.toNat (by omega)
          rw [resize_same P, Int.toNat_of_nonneg za] at e4
          generalize nextF 13 s3 = y at *
          obtain ⟨yn, s4⟩ := y
          simp only at e4 e3 hRR
          generalize mend { m with tab := resz m.tab yn.toNat } = M at *
          simp only [resS, resM, oImg, oRows, rI, rSn, eImg, eSrc] at e2 e1 e3 e4
          simp [go_sem, imgSt, eSrc, eImg, show v - ((n : Int) + 1) = v - n - 1 by omega] at hRR
          simp [go_sem, imgSt, imgSX, eSrc, eImg, e2, e1, e3, e4, c, c', hk0, hk1, hk2, hk3, show (n : Int) < v by omega, show (0 : Int) < v - n by omega, wrap_id (n := v - (n : Int) - 1) (by omega)]
          exact hRR
        by_cases hk4 : kv = 4
        · rw [if_neg hk0, if_neg hk1, if_neg hk2, if_neg hk3, if_pos hk4] at hRR
          rw [if_pos c] at hRR
          have e4 := sZeroX_E m P gv.toNat (by omega)
          rw [zero_same P (by omega), Int.toNat_of_nonneg ga] at e4
          generalize mend { m with tab := m.tab.set gv.toNat 1 } = M at *
          simp only [resS, resM, oImg, oRows, rI, rSn, eImg, eSrc] at e2 e1 e4
          simp [go_sem, imgSt, eSrc, eImg, show v - ((n : Int) + 1) = v - n - 1 by omega] at hRR
          simp [go_sem, imgSt, imgSX, eSrc, eImg, e2, e1, e4, c, c', hk0, hk1, hk2, hk3, hk4, show (n : Int) < v by omega, show (0 : Int) < v - n by omega, wrap_id (n := v - (n : Int) - 1) (by omega)]
          exact hRR
        rw [if_neg hk0, if_neg hk1, if_neg hk2, if_neg hk3, if_neg hk4] at hRR
        rw [if_pos c] at hRR
        have e3 := number_E s3 _ (by omega) gk
        have e4 := sWriteX_E m P gv.toNat (by omega) (numF s3).1
        rw [Int.toNat_of_nonneg ga] at e4
        generalize numF s3 = y at *
        obtain ⟨yn, s4⟩ := y
        simp only at e4 e3 hRR
        generalize writeS m gv.toNat yn = q at *
        obtain ⟨M, cM⟩ := q
        simp only [resS, resM, oImg, oRows, rI, rSn, eImg, eSrc] at e2 e1 e3 e4
        simp [go_sem, imgSt, eSrc, eImg, show v - ((n : Int) + 1) = v - n - 1 by omega] at hRR
        simp [go_sem, imgSt, imgSX, eSrc, eImg, e2, e1, e3, e4, c, c', hk0, hk1, hk2, hk3, hk4, show (n : Int) < v by omega, show (0 : Int) < v - n by omega, wrap_id (n := v - (n : Int) - 1) (by omega)]
        exact hRR
      · have c' : ¬ (0 : Int) < m.tab.length := by omega
        rw [if_neg c] at hG
        injection hG with hG1 hG2
        subst hG1; subst hG2
        by_cases hk0 : kv = 0
        · rw [if_pos hk0] at hRR
          have e3 := snapName_E s3 _ (by omega) gk
          have hnm := snap_ok (snmF_ok gk).2
          have e4 := sCreateX_E m P (snmF s3).1 (by have := hnm.2; omega)
          generalize snmF s3 = y at *
          obtain ⟨yn, s4⟩ := y
          simp only at e4 e3 hRR
          generalize createA m yn = q at *
          obtain ⟨M, cM⟩ := q
          simp only [resS, resM, oImg, oRows, rI, rSn, eImg, eSrc] at e2 e3 e4
          simp [go_sem, imgSt, eSrc, eImg, show v - ((n : Int) + 1) = v - n - 1 by omega] at hRR
          simp [go_sem, imgSt, imgSX, eSrc, eImg, e2, e3, e4, c, c', hk0, show (n : Int) < v by omega, show (0 : Int) < v - n by omega, wrap_id (n := v - (n : Int) - 1) (by omega)]
          exact hRR
        by_cases hk1 : kv = 1
        · rw [if_neg hk0, if_pos hk1] at hRR
          have e3 := snapName_E s3 _ (by omega) gk
          have hnm := snap_ok (snmF_ok gk).2
          have e4 := sDeleteX_E m P (snmF s3).1
          generalize snmF s3 = y at *
          obtain ⟨yn, s4⟩ := y
          simp only at e4 e3 hRR
          generalize deleteA m yn = q at *
          obtain ⟨M, cM⟩ := q
          simp only [resS, resM, oImg, oRows, rI, rSn, eImg, eSrc] at e2 e3 e4
          simp [go_sem, imgSt, eSrc, eImg, show v - ((n : Int) + 1) = v - n - 1 by omega] at hRR
          simp [go_sem, imgSt, imgSX, eSrc, eImg, e2, e3, e4, c, c', hk0, hk1, show (n : Int) < v by omega, show (0 : Int) < v - n by omega, wrap_id (n := v - (n : Int) - 1) (by omega)]
          exact hRR
        by_cases hk2 : kv = 2
        · rw [if_neg hk0, if_neg hk1, if_pos hk2] at hRR
          have e3 := snapName_E s3 _ (by omega) gk
          have hnm := snap_ok (snmF_ok gk).2
          have e4 := sRevertX_E m P (snmF s3).1
          generalize snmF s3 = y at *
          obtain ⟨yn, s4⟩ := y
          simp only at e4 e3 hRR
          generalize revertA m yn = q at *
          obtain ⟨M, cM⟩ := q
          simp only [resS, resM, oImg, oRows, rI, rSn, eImg, eSrc] at e2 e3 e4
          simp [go_sem, imgSt, eSrc, eImg, show v - ((n : Int) + 1) = v - n - 1 by omega] at hRR
          simp [go_sem, imgSt, imgSX, eSrc, eImg, e2, e3, e4, c, c', hk0, hk1, hk2, show (n : Int) < v by omega, show (0 : Int) < v - n by omega, wrap_id (n := v - (n : Int) - 1) (by omega)]
          exact hRR
        by_cases hk3 : kv = 3
        · rw [if_neg hk0, if_neg hk1, if_neg hk2, if_pos hk3] at hRR
          have e3 := next_E 13 s3 _ (by omega) gk
          obtain ⟨_, za, zb⟩ := nextF_ok 13 gk
          have e4 := sResizeX_E m P (nextF 13 s3).1.toNat (by omega)
          rw [resize_same P, Int.toNat_of_nonneg za] at e4
          generalize nextF 13 s3 = y at *
          obtain ⟨yn, s4⟩ := y
          simp only at e4 e3 hRR
          generalize mend { m with tab := resz m.tab yn.toNat } = M at *
          simp only [resS, resM, oImg, oRows, rI, rSn, eImg, eSrc] at e2 e3 e4
          simp [go_sem, imgSt, eSrc, eImg, show v - ((n : Int) + 1) = v - n - 1 by omega] at hRR
          simp [go_sem, imgSt, imgSX, eSrc, eImg, e2, e3, e4, c, c', hk0, hk1, hk2, hk3, show (n : Int) < v by omega, show (0 : Int) < v - n by omega, wrap_id (n := v - (n : Int) - 1) (by omega)]
          exact hRR
        by_cases hk4 : kv = 4
        · rw [if_neg hk0, if_neg hk1, if_neg hk2, if_neg hk3, if_pos hk4] at hRR
          rw [if_neg c] at hRR
          simp only [resS, resM, oImg, oRows, rI, rSn, eImg, eSrc] at e2
          simp [go_sem, imgSt, eSrc, eImg, show v - ((n : Int) + 1) = v - n - 1 by omega] at hRR
          simp [go_sem, imgSt, imgSX, eSrc, eImg, e2, c, c', hk0, hk1, hk2, hk3, hk4, show (n : Int) < v by omega, show (0 : Int) < v - n by omega, wrap_id (n := v - (n : Int) - 1) (by omega)]
          exact hRR
        rw [if_neg hk0, if_neg hk1, if_neg hk2, if_neg hk3, if_neg hk4] at hRR
        rw [if_neg c] at hRR
        simp only [resS, resM, oImg, oRows, rI, rSn, eImg, eSrc] at e2
        simp [go_sem, imgSt, eSrc, eImg, show v - ((n : Int) + 1) = v - n - 1 by omega] at hRR
        simp [go_sem, imgSt, imgSX, eSrc, eImg, e2, c, c', hk0, hk1, hk2, hk3, hk4, show (n : Int) < v by omega, show (0 : Int) < v - n by omega, wrap_id (n := v - (n : Int) - 1) (by omega)]
        exact hRR
    · intro a hI
      have : v - (l.length : Int) = 0 := by omega
      simp [go_sem, imgF, imgSt, imgSX, eSrc, eImg, this]
    · intro _; simp
    · simp only [eImg, oImg, oRows, rI, rSn] at ho
      simp [go_sem, imgSX, eSrc, eImg, oImg, oRows, rI, rSn, ho]
end Go.Proofs.YtndgpinhbffleaaGreat


namespace Go.Proofs.YtndgpinhbffleaaGreat
open Go
set_option maxRecDepth 100000
set_option maxHeartbeats 4000000
set_option linter.unusedSimpArgs false
set_option linter.unusedVariables false
theorem imageOf_E (bs : List Int) (h : bs.length ≤ 1073741824) (hb : ∀ b ∈ bs, 0 ≤ b ∧ b < 256) : ∃ m : Img, E CX 22 [.sl 1 (bs.map (.int .u8))] [] = some { val := eImg m } ∧ DrawnI m := by
  have e1 := l00Source_E bs h
  have g := source_ok bs h hb
  obtain ⟨m, s', e2, hD, _⟩ := image_E _ 0 (by omega) g
  refine ⟨m, ?_, hD⟩
  simp only [eSrc, oImg, oRows, rI, rSn] at e1 e2
  rw [show ((0 : Nat) : Int) = 0 from rfl] at e1 e2
  refine E_fin Tryz.f22 _ an22 rfl rfl rfl Tryz.func22 rfl (by kernel_rfl) ?_
  simp [go_sem, eImg, e1, e2]
def wrF : List Unit → (List Int × List Int) × Src → (List Int × List Int) × Src
  | [], a => a
  | _ :: r, a => wrF r ((a.1.1.set (nextF 24 a.2).1.toNat (nextF 5 (nextF 24 a.2).2).1, a.1.2.set (nextF 24 (nextF 5 (nextF 24 a.2).2).2).1.toNat (nextF 9 (nextF 24 (nextF 5 (nextF 24 a.2).2).2).2).1), (nextF 9 (nextF 24 (nextF 5 (nextF 24 a.2).2).2).2).2)
theorem wrF_len : ∀ (l : List Unit) (a : (List Int × List Int) × Src), (wrF l a).1.1.length = a.1.1.length ∧ (wrF l a).1.2.length = a.1.2.length := by
  intro l
  induction l with
  | nil => intro a; exact ⟨rfl, rfl⟩
  | cons u l ih => intro a; unfold wrF; rw [(ih _).1, (ih _).2]; simp
theorem wrongImg_E (s : Src) (k : Nat) (hk : k ≤ 400000000) (g : SrcOK s k) : ∃ (m : Img) (s' : Src), E CX 59 [.ptr [0] 0 0] [([0], eSrc s)] = some { val := oImg m, io := [eSrc s'], own := oRows m } ∧ ImgB m := by
  obtain ⟨m, s1, e1, hD, g1⟩ := image_E s k (by omega) g
  have P := imgP hD.ok
  obtain ⟨g2, a2, b2⟩ := nextF_ok 4 g1
  have e2 := next_E 4 s1 (k + 1000) (by omega) g1
  have B := P.b
  have hr := P.refs
  have hd := P.data
  obtain ⟨r, t, sn, d⟩ := m
  simp only at hr hd
  have hv4 : (nextF 4 s1).1 ≤ 4 := by omega
  generalize nextF 4 s1 = u at *
  obtain ⟨v, sv⟩ := u
  simp only at g2 a2 hv4 e2
  obtain ⟨l, hl⟩ : ∃ l : List Unit, l.length = v.toNat := ⟨List.replicate v.toNat (), by simp⟩
  have hlen := wrF_len l ((r, d), sv)
  refine ⟨⟨(wrF l ((r, d), sv)).1.1, t, sn, (wrF l ((r, d), sv)).1.2⟩, (wrF l ((r, d), sv)).2, ?_, ⟨by have := hlen.1; simp only at this ⊢; omega, B.tab, B.snaps, by have := hlen.2; simp only at this ⊢; omega, B.names, B.tabs⟩⟩
  simp only [hr, hd] at hlen
  simp only [eSrc, oImg, oRows, rI, rSn, hr, hd] at e1 e2
  refine E_fin Tryz.f59 _ an59 rfl rfl rfl Tryz.func59 rfl (by kernel_rfl) ?_
  simp [go_sem, eSrc, e1, e2]
  refine loop_for (fun X => fin CX _ _ X = _) l (fun n (a : (List Int × List Int) × Src) => a.1.1.length = 24 ∧ a.1.2.length = 24 ∧ SrcOK a.2 (k + 1000 + 3 + 12 * n)) (fun n a => ⟨SS [(0, .ptr [0] 0 0), (2, .ptr [2] 0 0), (3, .ptr [3] 0 0), (4, .int .i64 (v - n))], HS [([0], eSrc a.2), ([2], ⟨true, 26, 4, [.agg [.nil, .nil, .nil, .nil]]⟩), ([3], ⟨true, 26, 4, [.agg [.ref [60] 0 24, .ref [61] 0 t.length, .ref [62] 0 sn.length, .ref [63] 0 24]]⟩), ([60], rI a.1.1), ([61], rI t), ([62], rSn sn), ([63], rI a.1.2)]⟩)
    (fun q n a => (.exit 0, ⟨SS [(2, .ptr [2] 0 0), (3, .ptr [3] 0 0)], HS [([2], ⟨true, 26, 4, [.agg [.nil, .nil, .nil, .nil]]⟩), ([3], ⟨true, 26, 4, [.agg [.ref [60] 0 24, .ref [61] 0 t.length, .ref [62] 0 sn.length, .ref [63] 0 24]]⟩), ([60], rI (wrF q a).1.1), ([61], rI t), ([62], rSn sn), ([63], rI (wrF q a).1.2), ([0], eSrc (wrF q a).2)]⟩)) ((r, d), sv) ⟨hr, hd, g2.mono (by omega)⟩ ?_ ?_ ?_ ?_ ?_
  · simp [go_sem, rI, rSn, eSrc]
  · rintro R n ⟨⟨a1, a2⟩, sa⟩ x q hn hx hd' ⟨hI1, hI2, hI3⟩ hR
    simp only at hI1 hI2 hI3
    obtain ⟨f1, c1, q1⟩ := nextF_ok 24 hI3
    obtain ⟨f2, c2, q2⟩ := nextF_ok 5 f1
    obtain ⟨f3, c3, q3⟩ := nextF_ok 24 f2
    obtain ⟨f4, c4, q4⟩ := nextF_ok 9 f3
    have n1 := next_E 24 sa _ (by omega) hI3
    have n2 := next_E 5 (nextF 24 sa).2 _ (by omega) f1
    have n3 := next_E 24 (nextF 5 (nextF 24 sa).2).2 _ (by omega) f2
    have n4 := next_E 9 (nextF 24 (nextF 5 (nextF 24 sa).2).2).2 _ (by omega) f3
    have := hR ((a1.set (nextF 24 sa).1.toNat (nextF 5 (nextF 24 sa).2).1, a2.set (nextF 24 (nextF 5 (nextF 24 sa).2).2).1.toNat (nextF 9 (nextF 24 (nextF 5 (nextF 24 sa).2).2).2).1), (nextF 9 (nextF 24 (nextF 5 (nextF 24 sa).2).2).2).2) ⟨by simpa using hI1, by simpa using hI2, f4.mono (by omega)⟩ rfl
    generalize nextF 9 (nextF 24 (nextF 5 (nextF 24 sa).2).2).2 = x4 at *
    generalize nextF 24 (nextF 5 (nextF 24 sa).2).2 = x3 at *
    generalize nextF 5 (nextF 24 sa).2 = x2 at *
    generalize nextF 24 sa = x1 at *
    have w1 : x1.1.toNat < 24 := by omega
    have w3 : x3.1.toNat < 24 := by omega
    simp only [eSrc] at n1 n2 n3 n4
    simp [go_sem, rI, rSn, eSrc, show v - ((n : Int) + 1) = v - n - 1 by omega] at this
    simp [go_sem, rI, rSn, eSrc, n1, n2, n3, n4, hI1, hI2, w1, w3, c1, c3, show (n : Int) < v by omega, show (0 : Int) < v - n by omega, wrap_id (n := v - (n : Int) - 1) (by omega)]
    exact this
  · intro a hI
    have : v - (l.length : Int) = 0 := by omega
    simp [go_sem, wrF, rI, rSn, eSrc, this]
  · intro _; simp
  · simp [go_sem, rI, rSn, eSrc, oImg, oRows, hlen.1, hlen.2]
theorem wrongImage_E (bs : List Int) (h : bs.length ≤ 1073741824) (hb : ∀ b ∈ bs, 0 ≤ b ∧ b < 256) : ∃ m : Img, E CX 14 [.sl 1 (bs.map (.int .u8))] [] = some { val := eImg m } ∧ ImgB m := by
  have e1 := l00Source_E bs h
  have g := source_ok bs h hb
  obtain ⟨m, s', e2, hD⟩ := wrongImg_E _ 0 (by omega) g
  refine ⟨m, ?_, hD⟩
  simp only [eSrc, oImg, oRows, rI, rSn] at e1 e2
  rw [show ((0 : Nat) : Int) = 0 from rfl] at e1 e2
  refine E_fin Tryz.f14 _ an14 rfl rfl rfl Tryz.func14 rfl (by kernel_rfl) ?_
  simp [go_sem, eImg, e1, e2]
theorem sRepair_E (m : Img) (B : ImgB m) : E CX 16 [eImg m] [] = some (if nearOK m then resS (mend m) 0 else resBad 1) := by
  have e1 := sForm12_E m B
  cases c1 : nearOK m
  · rw [c1] at e1
    simp only [eImg] at e1
    refine E_fin Tryz.f16 _ an16 rfl rfl rfl Tryz.func16 rfl (by kernel_rfl) ?_
    simp [go_sem, eImg, e1, resBad]
  rw [c1] at e1
  have P := nearOK_iff.1 c1
  have e2 := sOwn_E m B
  have e3 := sCount_E m (by have := P.snaps; omega) (fun t ht => (P.tabs t ht).1)
  have hfix := fix_mend m P.data
  have C24 : (cnt (tabs m)).length = 24 := cnt_len _
  have D24 : (mend m).data.length = 24 := by simp [mend]
  have hM : mend m = ⟨cnt (tabs m), m.tab, m.snaps, (mend m).data⟩ := rfl
  rw [hM]
  generalize (mend m).data = D at *
  have hr := P.refs
  have hd := P.data
  obtain ⟨r, t, s, d⟩ := m
  simp only at hd hr hfix ⊢
  generalize cnt (tabs ⟨r, t, s, d⟩) = C at *
  simp only [eImg, oImg, oRows, rI, rSn, hr, hd] at e1 e2 e3
  have tk1 : List.take 24 (r.map (AV.int .i64)) = r.map (AV.int .i64) := List.take_of_length_le (by simp [hr])
  have tk2 : List.take 24 (d.map (AV.int .i64)) = d.map (AV.int .i64) := List.take_of_length_le (by simp [hd])
  refine E_fin Tryz.f16 _ an16 rfl rfl rfl Tryz.func16 rfl (by kernel_rfl) ?_
  simp [go_sem, eImg, e1, e2, e3, hr, hd, tk1, tk2, C24]
  refine loop_for (fun X => fin CX _ _ X = _) C (fun n (a : List Int) => a.length = 24) (fun n a => ⟨SS [(1, .ptr [1] 0 0), (2, .ptr [2] 0 0), (4, .int .i64 n)], HS [([1], ⟨true, 26, 4, [.agg [.ref [74] 0 24, .ref [71] 0 t.length, .ref [72] 0 s.length, .ref [73] 0 24]]⟩), ([2], ⟨true, 26, 4, [.agg [.nil, .nil, .nil, .nil]]⟩), ([70], rI r), ([71], rI t), ([72], rSn s), ([73], rI a), ([74], rI C)]⟩)
    (fun q n a => (.exit 0, ⟨SS [(1, .ptr [1] 0 0), (2, .ptr [2] 0 0)], HS [([1], ⟨true, 26, 4, [.agg [.ref [74] 0 24, .ref [71] 0 t.length, .ref [72] 0 s.length, .ref [73] 0 24]]⟩), ([2], ⟨true, 26, 4, [.agg [.nil, .nil, .nil, .nil]]⟩), ([70], rI r), ([71], rI t), ([72], rSn s), ([73], rI (fixF q n a)), ([74], rI C)]⟩)) d hd ?_ ?_ ?_ ?_ ?_
  · simp [go_sem, rI, rSn]
  · intro R n a x q hn hx hd' hI hR
    have hx := hx hn
    have hn24 : n < 24 := by omega
    by_cases c : x = 0
    · have := hR (a.set n 0) (by simpa using hI) (by simp [fixF, c])
      simp [go_sem, rI, rSn] at this
      simp [go_sem, rI, rSn, hn, hn24, hx, hI, C24, c, show (n : Int) < 24 by omega, wrap_id (n := (n : Int) + 1) (by omega)]
      exact this
    · have := hR a hI (by simp [fixF, c])
      simp [go_sem, rI, rSn] at this
      simp [go_sem, rI, rSn, hn, hn24, hx, hI, C24, c, show (n : Int) < 24 by omega, wrap_id (n := (n : Int) + 1) (by omega)]
      exact this
  · intro a hI; simp [go_sem, fixF, C24, rI, rSn]
  · intro _; simp
  · simp [go_sem, resS, hfix, rI, rSn, oImg, oRows, C24, D24]
theorem sameIntsR_E (a : List Int) (h : a.length ≤ 1073741824) : E CX 21 [.sl 1 (a.map (.int .i64)), .sl 1 (a.map (.int .i64))] [] = some { val := .bool true } := by
  refine E_fin Tryz.f21 _ an21 rfl rfl rfl Tryz.func21 rfl (by kernel_rfl) ?_
  simp [go_sem]
  refine loop_list (fun X => fin CX _ _ X = _) a (fun n _ => True) (fun n (_ : Unit) => ⟨SS [(0, .sl 1 (a.map (.int .i64))), (1, .sl 1 (a.map (.int .i64))), (5, .int .i64 n)], HE⟩)
    (fun r n _ => (.exit 0, ⟨SS [], HE⟩)) () trivial ?_ ?_ ?_ ?_ ?_
  · simp [go_sem]
  · intro n _ x r hn hx hd _
    have hx := hx hn
    simp [go_sem, hn, hx, wrap_id (n := (n : Int) + 1) (by omega)]
  · intro _ _; simp [go_sem]
  · intro _; simp
  · simp [go_sem]
theorem sameImageR_E (m : Img) (B : ImgB m) : E CX 17 [eImg m, eImg m] [] = some { val := .bool true } := by
  have e1 := sameIntsR_E m.refs B.refs
  have e2 := sameIntsR_E m.tab B.tab
  have e3 := sameIntsR_E m.data B.data
  have hs := B.snaps
  have ht := B.tabs
  obtain ⟨r, t, s, d⟩ := m
  simp only at e1 e2 e3 hs ht
  refine E_fin Tryz.f17 _ an17 rfl rfl rfl Tryz.func17 rfl (by kernel_rfl) ?_
  simp [go_sem, eImg, e1, e2, e3]
  refine loop_list (fun X => fin CX _ _ X = _) s (fun n _ => True) (fun n (_ : Unit) => ⟨SS [(2, .ptr [2] 0 0), (3, .ptr [3] 0 0), (5, .int .i64 n)], HS [([2], ⟨true, 26, 4, [eImg ⟨r, t, s, d⟩]⟩), ([3], ⟨true, 26, 4, [eImg ⟨r, t, s, d⟩]⟩)]⟩)
    (fun q n _ => (.exit 0, ⟨SS [], HE⟩)) () trivial ?_ ?_ ?_ ?_ ?_
  · simp [go_sem, eImg]
  · intro n _ x q hn hx hd _
    have hx := hx hn
    have e4 := sameIntsR_E x.tab (ht x (by rw [← hx]; exact List.getElem_mem hn))
    simp [go_sem, eImg, eSnp, hn, hx, e4, wrap_id (n := (n : Int) + 1) (by omega)]
  · intro _ _; simp [go_sem, eImg]
  · intro _; simp
  · simp [go_sem]
theorem sameGuestR_E (x : Gst) (h1 : x.vals.length ≤ 1073741824) (h2 : x.shots.length ≤ 1073741824) (h3 : ∀ y ∈ x.shots, y.vals.length ≤ 1073741824) : E CX 31 [.agg [.sl 1 (x.vals.map (.int .i64)), .sl 2 (x.shots.map eSht)], .agg [.sl 1 (x.vals.map (.int .i64)), .sl 2 (x.shots.map eSht)]] [] = some { val := .bool true } := by
  have e1 := sameIntsR_E x.vals h1
  obtain ⟨v, s⟩ := x
  simp only at e1 h2 h3
  refine E_fin Tryz.f31 _ an31 rfl rfl rfl Tryz.func31 rfl (by kernel_rfl) ?_
  simp [go_sem, e1]
  refine loop_list (fun X => fin CX _ _ X = _) s (fun n _ => True) (fun n (_ : Unit) => ⟨SS [(2, .ptr [2] 0 0), (3, .ptr [3] 0 0), (5, .int .i64 n)], HS [([2], ⟨true, 44, 2, [.agg [.sl 1 (v.map (.int .i64)), .sl 2 (s.map eSht)]]⟩), ([3], ⟨true, 44, 2, [.agg [.sl 1 (v.map (.int .i64)), .sl 2 (s.map eSht)]]⟩)]⟩)
    (fun q n _ => (.exit 0, ⟨SS [], HE⟩)) () trivial ?_ ?_ ?_ ?_ ?_
  · simp [go_sem]
  · intro n _ x q hn hx hd _
    have hx := hx hn
    have e4 := sameIntsR_E x.vals (h3 x (by rw [← hx]; exact List.getElem_mem hn))
    simp [go_sem, eSht, hn, hx, e4, wrap_id (n := (n : Int) + 1) (by omega)]
  · intro _ _; simp [go_sem]
  · intro _; simp
  · simp [go_sem]
end Go.Proofs.YtndgpinhbffleaaGreat


namespace Go.Proofs.YtndgpinhbffleaaGreat
open Go
set_option maxRecDepth 100000
set_option maxHeartbeats 1000000
set_option linter.unusedSimpArgs false
set_option linter.unusedVariables false
theorem at_E (bs : List Int) (i n : Int) (hb : ∀ b ∈ bs, 0 ≤ b ∧ b < 256) (hl : bs.length ≤ 1073741824) (hi : 0 ≤ i ∧ i ≤ 1000000) (hn : n ≤ 1000000) : ∃ v : Int, E CX 25 [.sl 1 (bs.map (.int .u8)), .int .i64 i, .int .i64 n] [] = some { val := .int .i64 v } ∧ 0 ≤ v ∧ (v < n ∨ v = 0) := by
  by_cases h1 : n ≤ 1
  · refine ⟨0, ?_, by omega, .inr rfl⟩
    refine E_fin Tryz.f25 _ an25 rfl rfl rfl Tryz.func25 rfl (by kernel_rfl) ?_
    simp [go_sem, h1]
  · have hn0 : ¬ n = 0 := by omega
    by_cases h2 : bs = []
    · subst h2
      refine ⟨(i * 7).tmod n, ?_, ?_, .inl ?_⟩
      · refine E_fin Tryz.f25 _ an25 rfl rfl rfl Tryz.func25 rfl (by kernel_rfl) ?_
        simp [go_sem, h1, hn0, wrap_id (n := i * 7) (by omega)]
      · rw [Int.tmod_eq_emod_of_nonneg (by omega)]; exact Int.emod_nonneg _ (by omega)
      · rw [Int.tmod_eq_emod_of_nonneg (by omega)]; exact Int.emod_lt_of_pos _ (by omega)
    · have hlen : 0 < bs.length := List.length_pos_iff.2 h2
      have hz : ¬ (bs.length : Int) = 0 := by omega
      have m1 : 0 ≤ i.tmod bs.length ∧ i.tmod bs.length < bs.length := by
        rw [Int.tmod_eq_emod_of_nonneg (by omega)]; exact ⟨Int.emod_nonneg _ (by omega), Int.emod_lt_of_pos _ (by omega)⟩
      have m2 : 0 ≤ (i + 1).tmod bs.length ∧ (i + 1).tmod bs.length < bs.length := by
        rw [Int.tmod_eq_emod_of_nonneg (by omega)]; exact ⟨Int.emod_nonneg _ (by omega), Int.emod_lt_of_pos _ (by omega)⟩
      have m3 : 0 ≤ i.tdiv bs.length ∧ i.tdiv bs.length ≤ 1000000 := by
        rw [Int.tdiv_eq_ediv_of_nonneg (by omega)]
        exact ⟨Int.ediv_nonneg (by omega) (by omega), Int.le_trans (Int.ediv_le_self _ (by omega)) (by omega)⟩
      obtain ⟨x, hx⟩ : ∃ x, bs[(i.tmod bs.length).toNat]? = some x := ⟨_, List.getElem?_eq_getElem (by omega)⟩
      obtain ⟨y, hy⟩ : ∃ y, bs[((i + 1).tmod bs.length).toNat]? = some y := ⟨_, List.getElem?_eq_getElem (by omega)⟩
      have bx := hb x (List.mem_of_getElem? hx)
      have bY := hb y (List.mem_of_getElem? hy)
      refine ⟨(x * 31 + y + i.tdiv bs.length).tmod n, ?_, ?_, .inl ?_⟩
      · refine E_fin Tryz.f25 _ an25 rfl rfl rfl Tryz.func25 rfl (by kernel_rfl) ?_
        have w0 := wrap_id (n := i.tdiv (bs.length : Int)) (by omega)
        have t1 : (i.tmod bs.length).toNat < bs.length := by omega
        have t2 : ((i + 1).tmod bs.length).toNat < bs.length := by omega
        have hx' : bs[(i.tmod bs.length).toNat] = x := by rw [List.getElem?_eq_getElem t1] at hx; injection hx
        have hy' : bs[((i + 1).tmod bs.length).toNat] = y := by rw [List.getElem?_eq_getElem t2] at hy; injection hy
        simp [go_sem, h1, hn0, h2, hz, hx', hy', m1.1, m2.1, t1, t2, w0, wrap_id (n := i + 1) (by omega), wrap_id (n := x) (by omega), wrap_id (n := y) (by omega), wrap_id (n := x * 31) (by omega), wrap_id (n := x * 31 + y) (by omega), wrap_id (n := x * 31 + y + i.tdiv bs.length) (by omega)]
      · rw [Int.tmod_eq_emod_of_nonneg (by omega)]; exact Int.emod_nonneg _ (by omega)
      · rw [Int.tmod_eq_emod_of_nonneg (by omega)]; exact Int.emod_lt_of_pos _ (by omega)
end Go.Proofs.YtndgpinhbffleaaGreat


namespace Go.Proofs.YtndgpinhbffleaaGreat
open Go
set_option maxRecDepth 100000
set_option maxHeartbeats 8000000
set_option linter.unusedSimpArgs false
set_option linter.unusedVariables false
def kept : Tx := [107, 101, 112, 116]
theorem kept_ok : snameOK kept = true := by decide
theorem kept_new {m : Img} (D : DrawnI m) : findA m kept = -1 := by
  rcases findA_spec m kept with ⟨h, _⟩ | ⟨k, _, h2, h3⟩
  · exact h
  · exfalso
    rw [List.getD_eq_getElem?_getD, List.getElem?_eq_getElem h2] at h3
    have := D.names _ (List.getElem_mem h2)
    simp only [Option.getD_some] at h3
    rw [h3] at this
    revert this
    decide
/-- What a guest sees while others write. -/
structure Keeps (S : List Snp) (H : List Sht) (a : Img) : Prop where
  ok : imgOK a = true
  snaps : a.snaps = S
  shots : (shown a).shots = H
theorem Keeps.write {S : List Snp} {H : List Sht} {a : Img} (K : Keeps S H a) (g v : Int) : Keeps S H (writeA a g v).1 := by
  refine ⟨writeA_ok K.ok g v, ?_, ?_⟩
  · unfold writeA
    split
    · exact K.snaps
    · split
      · exact K.snaps
      · exact K.snaps
  · unfold writeA
    split
    · exact K.shots
    · rename_i hn
      split
      · exact K.shots
      · have hb : (inn g 0 (a.tab.length - 1) && isNum v) = true := by simpa using hn
        simp only [Bool.and_eq_true] at hb
        obtain ⟨hg, _⟩ := inn_lt hb.1
        simp only
        rw [shown_write (imgP K.ok) hg (by omega) hb.2]
        exact K.shots
theorem Keeps.resize {S : List Snp} {H : List Sht} {a : Img} (K : Keeps S H a) {n : Nat} (hn : n ≤ 12) : Keeps S H (mend { a with tab := resz a.tab n }) :=
  ⟨mend_ok (resize_near (imgP K.ok) hn), K.snaps, by rw [shown_resize (imgP K.ok) hn]; exact K.shots⟩
def wrS (G V : Nat → Int) : List Unit → Nat → Img → Img
  | [], _, a => a
  | _ :: r, n, a => wrS G V r (n + 1) (writeA a (G n) (V n)).1
theorem wrS_keeps {S : List Snp} {H : List Sht} (G V : Nat → Int) : ∀ (l : List Unit) (n : Nat) (a : Img), Keeps S H a → Keeps S H (wrS G V l n a) := by
  intro l
  induction l with
  | nil => intro n a K; exact K
  | cons u l ih => intro n a K; exact ih _ _ (K.write _ _)
theorem kept_at {S : List Snp} {t : List Int} {a : Img} (hS : a.snaps = S ++ [⟨kept, t⟩]) (hn : ∀ s ∈ S, s.name ≠ kept) : findA a kept = S.length := by
  rcases findA_spec a kept with ⟨_, h⟩ | ⟨k, h1, h2, h3⟩
  · exact absurd rfl (h ⟨kept, t⟩ (by rw [hS]; simp))
  · rw [h1]
    rw [hS] at h2 h3
    simp only [List.length_append, List.length_singleton] at h2
    by_cases hk : k < S.length
    · rw [List.getD_eq_getElem?_getD, List.getElem?_append_left hk, List.getElem?_eq_getElem hk] at h3
      exact absurd h3 (hn _ (List.getElem_mem hk))
    · have : k = S.length := by omega
      rw [this]
theorem snapFn_E (b0 b1 : List Int) (h0 : ∀ b ∈ b0, 0 ≤ b ∧ b < 256) (h1 : ∀ b ∈ b1, 0 ≤ b ∧ b < 256) (top0 : b0.length ≤ top) (top1 : b1.length ≤ top) :
    E CX 4 [.sl 1 (b0.map (.int .u8)), .sl 1 (b1.map (.int .u8))] [] = some { val := .bool true } := by
  by_cases l0 : 1048576 < b0.length
  · refine E_fin Tryz.f4 _ an4 rfl rfl rfl Tryz.func4 rfl (by kernel_rfl) ?_
    simp [go_sem, show (1048576 : Int) < b0.length by omega]
  by_cases l1 : 1048576 < b1.length
  · refine E_fin Tryz.f4 _ an4 rfl rfl rfl Tryz.func4 rfl (by kernel_rfl) ?_
    simp [go_sem, show ¬ (1048576 : Int) < b0.length by omega, show (1048576 : Int) < b1.length by omega]
  obtain ⟨m, e0, hD⟩ := imageOf_E b0 (by omega) h0
  have P := imgP hD.ok
  have B := P.b
  obtain ⟨G, hG⟩ : ∃ G : Nat → Int, ∀ n : Nat, n ≤ 10 → E CX 25 [.sl 1 (b1.map (.int .u8)), .int .i64 n, .int .i64 13] [] = some { val := .int .i64 (G n) } ∧ 0 ≤ G n ∧ (G n < 13 ∨ G n = 0) := by
    have := fun n : Nat => fun hn : n ≤ 10 => at_E b1 n 13 h1 (by omega) (by omega) (by omega)
    exact ⟨fun n => if h : n ≤ 10 then Classical.choose (this n h) else 0, fun n hn => by simp only [dif_pos hn]; exact Classical.choose_spec (this n hn)⟩
  obtain ⟨V, hV⟩ : ∃ V : Nat → Int, ∀ n : Nat, n ≤ 10 → E CX 25 [.sl 1 (b1.map (.int .u8)), .int .i64 ((n : Int) + 1), .int .i64 900] [] = some { val := .int .i64 (V n) } ∧ 0 ≤ V n ∧ (V n < 900 ∨ V n = 0) := by
    have := fun n : Nat => fun hn : n ≤ 10 => at_E b1 ((n : Int) + 1) 900 h1 (by omega) (by omega) (by omega)
    exact ⟨fun n => if h : n ≤ 10 then Classical.choose (this n h) else 0, fun n hn => by simp only [dif_pos hn]; exact Classical.choose_spec (this n hn)⟩
  replace l0 : ¬ (1048576 : Int) < b0.length := by omega
  replace l1 : ¬ (1048576 : Int) < b1.length := by omega
  have hk4 : ¬ 65536 < kept.length := by decide
  have c1 := snapCreate_E m B kept
  rw [if_neg hk4, hD.ok, if_pos rfl] at c1
  have f1 := kept_new hD
  by_cases h3 : m.snaps.length = 3
  · have hc : createA m kept = (m, 6) := by
      unfold createA; rw [kept_ok, if_neg (by simp), f1, if_neg (by omega), if_pos h3]
    rw [hc] at c1
    have s1 := sameImageR_E m B
    have hs : m.snaps ≠ [] := by intro h; rw [h] at h3; simp at h3
    simp only [resI, if_neg hs, eImg, oImg, oRows, rI, rSn, kept] at e0 c1 s1
    refine E_fin Tryz.f4 _ an4 rfl rfl rfl Tryz.func4 rfl (by kernel_rfl) ?_
    simp [go_sem, l0, l1, e0, c1, s1, h3]
  have hc : createA m kept = (mend { m with snaps := m.snaps ++ [⟨kept, m.tab⟩] }, 0) := by
    unfold createA; rw [kept_ok, if_neg (by simp), f1, if_neg (by omega), if_neg h3]
  have near := create_near P kept_ok (by rw [f1]; omega) h3
  have K0 : Keeps (m.snaps ++ [⟨kept, m.tab⟩]) ((shown m).shots ++ [⟨kept, (shown m).vals⟩]) (mend { m with snaps := m.snaps ++ [⟨kept, m.tab⟩] }) :=
    ⟨mend_ok near, rfl, by rw [shown_create P kept_ok (by rw [f1]; omega) h3]⟩
  rw [hc] at c1
  generalize mend { m with snaps := m.snaps ++ [⟨kept, m.tab⟩] } = a0 at *
  have K6 := wrS_keeps G V (List.replicate 6 ()) 0 a0 K0
  obtain ⟨l, hl, hl6⟩ : ∃ l : List Unit, l = List.replicate 6 () ∧ l.length = 6 := ⟨_, rfl, by simp⟩
  rw [← hl] at K6
  clear hl
  have hG7 := hG 7 (by omega)
  obtain ⟨N, hN, hN12⟩ : ∃ N : Nat, G 7 = N ∧ N ≤ 12 := ⟨(G 7).toNat, by omega, by omega⟩
  rw [hN] at hG7
  have hG7e := hG7.1
  rw [show ((7 : Nat) : Int) = 7 from rfl] at hG7e
  have K7 := K6.resize hN12
  have c2 := resizeImage_E (wrS G V l 0 a0) (imgP K6.ok).b N
  have hrz : resizeA (wrS G V l 0 a0) N = (mend { wrS G V l 0 a0 with tab := resz (wrS G V l 0 a0).tab N }, 0) := by
    have : inn (N : Int) 0 12 = true := by simp [inn]; omega
    simp [resizeA, this]
  rw [K6.ok, if_pos rfl, hrz] at c2
  generalize mend { wrS G V l 0 a0 with tab := resz (wrS G V l 0 a0).tab N } = y at *
  have hnm : ∀ s ∈ m.snaps, s.name ≠ kept := by
    intro s hs he
    have := hD.names s hs
    rw [he] at this
    revert this
    decide
  have Py := imgP K7.ok
  have c3 := snapRevert_E y Py.b kept
  have fy := kept_at K7.snaps hnm
  have hly : m.snaps.length < y.snaps.length := by rw [K7.snaps]; simp
  have hrv : revertA y kept = (mend { y with tab := snapAt y m.snaps.length }, 0) := by
    unfold revertA; rw [fy, if_neg (by omega), Int.toNat_natCast]
  rw [if_neg hk4, K7.ok, if_pos rfl, hrv] at c3
  have hHl : (shown m).shots.length = m.snaps.length := by simp [shown]
  have shb : shown (mend { y with tab := snapAt y m.snaps.length }) = ⟨(shown m).vals, (shown m).shots ++ [⟨kept, (shown m).vals⟩]⟩ := by
    rw [shown_revert Py hly, K7.shots]
    congr 1
    rw [← hHl, List.getD_eq_getElem?_getD, List.getElem?_append_right (by omega)]
    simp
  have okb : imgOK (mend { y with tab := snapAt y m.snaps.length }) = true := mend_ok (revert_near Py hly)
  have sb : (mend { y with tab := snapAt y m.snaps.length }).snaps = m.snaps ++ [⟨kept, m.tab⟩] := K7.snaps
  generalize mend { y with tab := snapAt y m.snaps.length } = bk at *
  have Pb := imgP okb
  have c4 := snapDelete_E bk Pb.b kept
  have fb := kept_at sb hnm
  have hdl : deleteA bk kept = (mend { bk with snaps := bk.snaps.eraseIdx m.snaps.length }, 0) := by
    unfold deleteA; rw [fb, if_neg (by omega), Int.toNat_natCast]
  rw [if_neg hk4, okb, if_pos rfl, hdl] at c4
  have shg : shown (mend { bk with snaps := bk.snaps.eraseIdx m.snaps.length }) = shown m := by
    rw [shown_delete Pb, shb]
    simp only
    rw [← hHl, List.eraseIdx_append_of_length_le (by omega)]
    simp
  have okg : imgOK (mend { bk with snaps := bk.snaps.eraseIdx m.snaps.length }) = true := mend_ok (delete_near Pb _)
  have sg : (mend { bk with snaps := bk.snaps.eraseIdx m.snaps.length }).snaps = m.snaps := by
    show bk.snaps.eraseIdx m.snaps.length = _
    rw [sb, List.eraseIdx_append_of_length_le (by omega)]
    simp
  generalize mend { bk with snaps := bk.snaps.eraseIdx m.snaps.length } = gn at *
  have Pg := imgP okg
  have c5 := guestOf_E m B
  have c6 := guestOf_E gn Pg.b
  have c7 := snapNames_E bk Pb.b okb
  have c8 := imageOK_E bk Pb.b
  have c9 := imageOK_E gn Pg.b
  rw [hD.ok, if_pos rfl] at c5
  rw [okg, if_pos rfl, shg] at c6
  rw [sb] at c7
  rw [okb] at c8
  rw [okg] at c9
  have ht12 := tabOK_len P.tab.1
  have c10 := sameGuestR_E (shown m) (by simp [shown]; omega) (by simp [shown]; have := P.snaps; omega) (by
    intro z hz
    simp only [shown, List.mem_map] at hz
    obtain ⟨q, hq, rfl⟩ := hz
    simpa using B.tabs q hq)
  have hHs : (shown m).shots = [] ↔ m.snaps = [] := by simp [shown]
  have hls := P.snaps
  generalize shown m = GG at *
  obtain ⟨vv, HH⟩ := GG
  simp only at hHs c5 c6 c10
  have n0 : a0.snaps ≠ [] := by rw [K0.snaps]; simp
  have ny : y.snaps ≠ [] := by rw [K7.snaps]; simp
  have nb : bk.snaps ≠ [] := by rw [sb]; simp
  have nw : (wrS G V l 0 a0).snaps ≠ [] := by rw [K6.snaps]; simp
  obtain ⟨L, hLd⟩ : ∃ L, L = m.snaps.map Snp.name := ⟨_, rfl⟩
  have hL : L.length = m.snaps.length := by rw [hLd]; simp
  simp only [List.map_append, List.map_cons, List.map_nil] at c7
  rw [← hLd] at c7
  have hix : ∀ h, (L.map AV.str ++ [AV.str kept])[m.snaps.length]'h = AV.str kept := by
    intro h
    rw [List.getElem_append_right (by simp [hL])]
    simp [hL]
  have hSK : m.snaps ++ [⟨kept, m.tab⟩] ≠ [] := by simp
  generalize m.snaps ++ [⟨kept, m.tab⟩] = SK at *
  generalize HH ++ [⟨kept, vv⟩] = HK at *
  by_cases hm : m.snaps = []
  · have hHH := hHs.2 hm
    subst hHH
    rw [hm] at sg
    simp only [resI, if_neg n0, if_neg ny, if_neg nb, sg, if_true, eImg, vGst, nilOr, oImg, oRows, oImgN, oRowsN, rI, rSn, kept, List.map_nil] at e0 c1 c2 c3 c4 c5 c6 c7 c8 c9 c10 hG7e hix
    refine E_fin Tryz.f4 _ an4 rfl rfl rfl Tryz.func4 rfl (by kernel_rfl) ?_
    simp [go_sem, l0, l1, e0, c1]
    refine loop_for (fun X => fin CX _ _ X = _) l (fun n (a : Img) => Keeps SK HK a) (fun n a => ⟨SS [(1, .sl 1 (b1.map (.int .u8))), (5, .ptr [5] 0 0), (8, .ptr [8] 0 0), (9, .int .i64 n)], HS [([5], ⟨true, 26, 4, [eImg m]⟩), ([8], ⟨true, 26, 4, [eImg a]⟩)]⟩)
      (fun r n a => (.exit 0, ⟨SS [(1, .sl 1 (b1.map (.int .u8))), (5, .ptr [5] 0 0), (8, .ptr [8] 0 0)], HS [([5], ⟨true, 26, 4, [eImg m]⟩), ([8], ⟨true, 26, 4, [eImg (wrS G V r n a)]⟩)]⟩)) a0 K0 ?_ ?_ ?_ ?_ ?_
    · simp [go_sem, eImg]
    · intro R n a u r hn hx hd hI hR
      have hn6 : n < 6 := by omega
      have w1 := writeCluster_E a (imgP hI.ok).b (G n) (V n)
      rw [hI.ok, if_pos rfl] at w1
      have K' := hI.write (G n) (V n)
      have hRR := hR (writeA a (G n) (V n)).1 K' rfl
      have na : (writeA a (G n) (V n)).1.snaps ≠ [] := by rw [K'.snaps]; exact hSK
      have g1 := (hG n (by omega)).1
      have g2 := (hV n (by omega)).1
      generalize writeA a (G n) (V n) = q at *
      obtain ⟨q1, q2⟩ := q
      simp only [resI, if_neg na, eImg, oImg, oRows, rI, rSn] at w1
      simp [go_sem, eImg] at hRR
      simp [go_sem, eImg, g1, g2, w1, show (n : Int) < 6 by omega, wrap_id (n := (n : Int) + 1) (by omega)]
      exact hRR
    · intro a hI; simp [go_sem, wrS, eImg, hl6]
    · intro _; simp
    · simp [go_sem, eImg, hG7e, c2, c3, c4, c5, c6, c7, c8, c9, c10, hL, hix, wrap_id (n := (m.snaps.length : Int) + 1) (by omega)]
  · have hHH : HH ≠ [] := fun h => hm (hHs.1 h)
    have hno : ∀ q, nilOr q (HH.map eSht) = .sl q (HH.map eSht) := fun q => nilOr_ne q (by simpa using hHH)
    have ng : gn.snaps ≠ [] := by rw [sg]; exact hm
    simp only [resI, if_neg n0, if_neg ny, if_neg nb, if_neg ng, eImg, vGst, hno, oImg, oRows, rI, rSn, kept] at e0 c1 c2 c3 c4 c5 c6 c7 c8 c9 c10 hG7e hix
    refine E_fin Tryz.f4 _ an4 rfl rfl rfl Tryz.func4 rfl (by kernel_rfl) ?_
    simp [go_sem, l0, l1, e0, c1]
    refine loop_for (fun X => fin CX _ _ X = _) l (fun n (a : Img) => Keeps SK HK a) (fun n a => ⟨SS [(1, .sl 1 (b1.map (.int .u8))), (5, .ptr [5] 0 0), (8, .ptr [8] 0 0), (9, .int .i64 n)], HS [([5], ⟨true, 26, 4, [eImg m]⟩), ([8], ⟨true, 26, 4, [eImg a]⟩)]⟩)
      (fun r n a => (.exit 0, ⟨SS [(1, .sl 1 (b1.map (.int .u8))), (5, .ptr [5] 0 0), (8, .ptr [8] 0 0)], HS [([5], ⟨true, 26, 4, [eImg m]⟩), ([8], ⟨true, 26, 4, [eImg (wrS G V r n a)]⟩)]⟩)) a0 K0 ?_ ?_ ?_ ?_ ?_
    · simp [go_sem, eImg]
    · intro R n a u r hn hx hd hI hR
      have hn6 : n < 6 := by omega
      have w1 := writeCluster_E a (imgP hI.ok).b (G n) (V n)
      rw [hI.ok, if_pos rfl] at w1
      have K' := hI.write (G n) (V n)
      have hRR := hR (writeA a (G n) (V n)).1 K' rfl
      have na : (writeA a (G n) (V n)).1.snaps ≠ [] := by rw [K'.snaps]; exact hSK
      have g1 := (hG n (by omega)).1
      have g2 := (hV n (by omega)).1
      generalize writeA a (G n) (V n) = q at *
      obtain ⟨q1, q2⟩ := q
      simp only [resI, if_neg na, eImg, oImg, oRows, rI, rSn] at w1
      simp [go_sem, eImg] at hRR
      simp [go_sem, eImg, g1, g2, w1, show (n : Int) < 6 by omega, wrap_id (n := (n : Int) + 1) (by omega)]
      exact hRR
    · intro a hI; simp [go_sem, wrS, eImg, hl6]
    · intro _; simp
    · simp [go_sem, eImg, hG7e, c2, c3, c4, c5, c6, c7, c8, c9, c10, hL, hix, wrap_id (n := (m.snaps.length : Int) + 1) (by omega)]
end Go.Proofs.YtndgpinhbffleaaGreat


namespace Go.Proofs.YtndgpinhbffleaaGreat
open Go
set_option maxRecDepth 100000
theorem told_u8 : ∀ bs, Typed Tryz.prog 5 bs → ∃ x : Int, mkVal (tagg Tryz.prog 5) bs = .int .u8 x ∧ (0 ≤ x ∧ x < 256) := by
  intro bs h
  obtain ⟨x, rfl, w⟩ := typed_int Tryz.underlying5 h
  refine ⟨x, by rw [show tagg Tryz.prog 5 = false by kernel_rfl]; rfl, ?_⟩
  rw [show IntKind.u8.min = 0 from rfl, show IntKind.u8.max = 255 from rfl] at w
  omega
theorem told_Bytes : ∀ bs, Typed Tryz.prog 22 bs → ∃ x : List Int, mkVal (tagg Tryz.prog 22) bs = .sl 1 (x.map (.int .u8)) ∧ x.length ≤ top ∧ ∀ b ∈ x, 0 ≤ b ∧ b < 256 := by
  intro bs h
  obtain ⟨x, e, w, q⟩ := typed_list Tryz.underlying22 told_u8 h
  rw [show Tryz.prog.cellsOf 5 = 1 by kernel_rfl] at e
  cases e
  exact ⟨x, by rw [show tagg Tryz.prog 22 = false by kernel_rfl]; rfl, w, q⟩
end Go.Proofs.YtndgpinhbffleaaGreat

