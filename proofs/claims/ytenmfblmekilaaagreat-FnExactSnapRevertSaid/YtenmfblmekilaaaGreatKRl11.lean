/- A reading of the loaded code over plain data, its soundness, and what functions answer by it (part 11; joined by program). No condition. -/
import Derived.Test.YtenmfblmekilaaaGreatKRl10
set_option linter.all false
namespace Go.Proofs.YtenmfblmekilaaaGreat
open Go
set_option maxRecDepth 100000
set_option maxHeartbeats 2000000
set_option linter.unusedSimpArgs false
set_option linter.unusedVariables false
theorem formB_tab {m : Img} (h : formB m = true) : refsOK m.refs = true ∧ tabOK m.tab = true ∧ m.snaps.length ≤ 3 ∧ m.data.length = 24 ∧ ∀ s ∈ m.snaps, tabOK s.tab = true := by
  unfold formB at h
  simp only [Bool.and_eq_true, decide_eq_true_eq, okF_eq] at h
  obtain ⟨⟨⟨⟨⟨h1, h2⟩, h3⟩, h4⟩, h5, _⟩, _⟩ := h
  exact ⟨h1, h2, h3, h4, fun s hs => (h5 s hs).2.1⟩
def okR : List Int → List Int → List Int → Bool
  | n :: ns, r :: rs, d :: ds => decide (n = r) && (!decide (n = 0) || decide (d = 0)) && okR ns rs ds
  | _, _, _ => true
theorem okR_eq : ∀ (n r d : List Int), n.length = r.length → d.length = r.length → okR n r d = (decide (r = n) && restL d r) := by
  intro n
  induction n with
  | nil => intro r d h1 h2; cases r with
    | nil => simp [okR, restL]
    | cons y r => simp at h1
  | cons x n ih =>
    intro r d h1 h2
    cases r with
    | nil => simp at h1
    | cons y r =>
      cases d with
      | nil => simp at h2
      | cons z d =>
        simp only [okR, restL]
        rw [ih r d (by simpa using h1) (by simpa using h2)]
        by_cases c : x = y
        · subst c
          simp only [List.cons.injEq, true_and, decide_true, Bool.true_and]
          rw [Bool.eq_iff_iff]
          simp only [Bool.and_eq_true]
          constructor
          · rintro ⟨a, b, c⟩; exact ⟨b, a, c⟩
          · rintro ⟨b, a, c⟩; exact ⟨a, b, c⟩
        · have : ¬ y = x := fun h => c h.symm
          simp [c, this]
theorem sImageOK_E (m : Img) (B : ImgB m) : E CX 41 [eImg m] [] = some { val := .bool (imgOK m) } := by
  have e1 := sForm_E m B
  have hi : imgOK m = (nearOK m && (decide (m.refs = cnt (tabs m)) && restOK m)) := by
    unfold imgOK; rw [Bool.and_assoc]
  rw [hi, nearOK_form]
  cases c1 : formB m
  · rw [c1] at e1
    simp only [eImg] at e1
    refine E_fin Tryz.f41 _ an41 rfl rfl rfl Tryz.func41 rfl (by kernel_rfl) ?_
    simp [go_sem, eImg, e1]
  rw [c1] at e1
  obtain ⟨h1, h2, h3, h4, h5⟩ := formB_tab c1
  have h24 : m.refs.length = 24 := by simp [refsOK] at h1; exact h1.1
  have e2 := sTwice_E m.tab h2
  have e4 := sCount_E m (by omega) (fun t ht => by
    rcases List.mem_cons.1 ht with rfl | ht
    · exact h2
    · obtain ⟨x, hx, rfl⟩ := List.mem_map.1 ht; exact h5 x hx)
  have hr : (decide (m.refs = cnt (tabs m)) && restOK m) = okR (cnt (tabs m)) m.refs m.data := by
    rw [okR_eq _ _ _ (by rw [cnt_len]; exact h24.symm) (by omega)]
    unfold restOK
    rw [restL_range _ _ (by omega), h4]
  rw [hr]
  have hC : (cnt (tabs m)).length = 24 := cnt_len _
  generalize cnt (tabs m) = C at *
  obtain ⟨r, t, s, d⟩ := m
  simp only [eImg] at e1 e2 e4 h3 h4 h5 h24
  refine E_fin Tryz.f41 _ an41 rfl rfl rfl Tryz.func41 rfl (by kernel_rfl) ?_
  simp only
  cases c2 : onceB t
  · rw [c2] at e2; simp at e2
    simp [go_sem, eImg, e1, e2]
  rw [c2] at e2; simp at e2
  simp [go_sem, eImg, e1, e2]
  refine loop_list (fun X => fin CX _ _ X = _) s (fun n _ => True) (fun n (_ : Unit) => ⟨SS [(1, .ptr [1] 0 0), (3, .int .i64 n)], HS [([1], ⟨true, 29, 4, [eImg ⟨r, t, s, d⟩], none⟩)]⟩)
    (fun q n _ => if q.all (fun s => onceB s.tab) then (.exit 0, ⟨SS [(1, .ptr [1] 0 0)], HS [([1], ⟨true, 29, 4, [eImg ⟨r, t, s, d⟩], none⟩)]⟩) else (.ret, ⟨SS [(2, .bool false)], HE⟩)) () trivial ?_ ?_ ?_ ?_ ?_
  · simp [go_sem, eImg]
  · intro n _ x q hn hx hd _
    have hx := hx hn
    have e3 := sTwice_E x.tab (h5 x (by rw [← hx]; exact List.getElem_mem hn))
    cases c : onceB x.tab
    · rw [c] at e3; simp at e3
      simp [go_sem, eImg, eSnp, hn, hx, c, e3]
    · rw [c] at e3; simp at e3
      simp [go_sem, eImg, eSnp, hn, hx, c, e3, wrap_id (n := (n : Int) + 1) (by omega)]
  · intro _ _; simp [go_sem, eImg]
  · intro _; split <;> simp
  cases c6 : s.all (fun s => onceB s.tab)
  · simp [go_sem, c6]
  simp [go_sem, eImg, c6, e4, hC]
  refine loop_list (fun X => fin CX _ _ X = _) C (fun n _ => True) (fun n (_ : Unit) => ⟨SS [(1, .ptr [1] 0 0), (4, .sl 1 (C.map (.int .i64))), (5, .int .i64 n)], HS [([1], ⟨true, 29, 4, [eImg ⟨r, t, s, d⟩], none⟩)]⟩)
    (fun q n _ => if okR q (r.drop n) (d.drop n) then (.exit 2, ⟨SS [], HE⟩) else (.ret, ⟨SS [(2, .bool false)], HE⟩)) () trivial ?_ ?_ ?_ ?_ ?_
  · simp [go_sem, eImg]
  · intro n _ x q hn hx hd _
    have hx := hx hn
    have hnr : n < r.length := by omega
    have hnd : n < d.length := by omega
    have h24i : (n : Int) < 24 := by omega
    have h24n : n < 24 := by omega
    obtain ⟨y, gy⟩ : ∃ y, r[n] = y := ⟨_, rfl⟩
    obtain ⟨z, gz⟩ : ∃ z, d[n] = z := ⟨_, rfl⟩
    have hb : r.drop n = y :: r.drop (n + 1) := by rw [← gy]; exact List.drop_eq_getElem_cons hnr
    have hb2 : d.drop n = z :: d.drop (n + 1) := by rw [← gz]; exact List.drop_eq_getElem_cons hnd
    rw [hb, hb2]
    by_cases k0 : x = y
    · by_cases k1 : x = 0
      · have k3 : y = 0 := by omega
        by_cases k2 : z = 0
        · simp [go_sem, eImg, hn, hnr, hnd, h24i, h24n, hC, h24, h4, hx, gy, gz, k0, k1, k2, k3, okR, wrap_id (n := (n : Int) + 1) (by omega)]
        · simp [go_sem, eImg, hn, hnr, hnd, h24i, h24n, hC, h24, h4, hx, gy, gz, k0, k1, k2, k3, okR]
      · have k3 : ¬ y = 0 := by omega
        simp [go_sem, eImg, hn, hnr, hnd, h24i, h24n, hC, h24, h4, hx, gy, gz, k0, k1, k3, okR, wrap_id (n := (n : Int) + 1) (by omega)]
    · simp [go_sem, eImg, hn, hnr, hnd, h24i, h24n, hC, h24, h4, hx, gy, gz, k0, okR]
  · intro _ _; simp [go_sem, eImg, okR, hC]
  · intro _; split <;> simp
  · cases c7 : okR C r d <;> simp [go_sem, c7]
theorem sOwn_E (m : Img) (B : ImgB m) : E CX 42 [eImg m] [] = some { val := oImg m, own := oRowp m } := by
  have h1 := B.refs; have h2 := B.tab; have h3 := B.data; have h4 := B.snaps; have h5 := B.tabs
  obtain ⟨r, t, s, d⟩ := m
  simp only at h1 h2 h3 h4 h5
  refine E_fin Tryz.f42 _ an42 rfl rfl rfl Tryz.func42 rfl (by kernel_rfl) ?_
  simp [go_sem, eImg, h1, h2, h3]
  refine loop_for (fun X => fin CX _ _ X = _) s (fun n a => a.length = n) (fun n a => ⟨SS [(1, .ptr [1] 0 0), (2, .ptr [2] 0 0), (3, .ptr [3] 0 0), (4, .int .i64 n)], HS [([1], ⟨true, 29, 4, [eImg ⟨r, t, s, d⟩], none⟩), ([2], ⟨true, 29, 4, [.agg [.nil, .nil, .nil, .nil]], none⟩), ([3], ⟨true, 29, 4, [.agg [.ref [5] 0 r.length, .ref [9] 0 t.length, .ref [13] 0 a.length, .ref [14] 0 d.length]], none⟩), ([5], rI r), ([9], rI t), ([13], rSp a), ([14], rI d)]⟩)
    (fun q n a => (.exit 0, ⟨SS [(2, .ptr [2] 0 0), (3, .ptr [3] 0 0)], HS [([2], ⟨true, 29, 4, [.agg [.nil, .nil, .nil, .nil]], none⟩), ([3], ⟨true, 29, 4, [.agg [.ref [5] 0 r.length, .ref [9] 0 t.length, .ref [13] 0 (a ++ q).length, .ref [14] 0 d.length]], none⟩), ([5], rI r), ([9], rI t), ([13], rSp (a ++ q)), ([14], rI d)]⟩)) ([] : List Snp) rfl ?_ ?_ ?_ ?_ ?_
  · simp [go_sem, rI, rSp, eImg]
  · intro R n a x q hn hx hd hI hR
    have hx := hx hn
    have hxt := h5 x (by rw [← hx]; exact List.getElem_mem hn)
    have := hR (a ++ [x]) (by simp; omega) (by simp)
    simp [go_sem, rI, rSp, eSnp, eImg] at this
    simp [go_sem, rI, rSp, hn, hx, eSnp, eImg, hxt, wrap_id (n := (n : Int) + 1) (by omega), show a.length + 1 ≤ 1073741824 by omega]
    exact this
  · intro a hI
    simp [go_sem, rI, rSp, eImg]
  · intro _; simp
  · simp [go_sem, rI, rSp, oImg, oRowp]
theorem sFind_E (m : Img) (v : Tx) (hl : m.snaps.length ≤ 1073741824) : E CX 44 [eImg m, .str v] [] = some { val := .int .i64 (findA m v) } := by
  unfold findA
  obtain ⟨r, t, s, d⟩ := m
  simp only at hl ⊢
  refine E_fin Tryz.f44 _ an44 rfl rfl rfl Tryz.func44 rfl (by kernel_rfl) ?_
  simp [go_sem, eImg]
  refine loop_list (fun X => fin CX _ _ X = _) s (fun n _ => True) (fun n (_ : Unit) => ⟨SS [(1, .str v), (2, .ptr [2] 0 0), (5, .int .i64 n)], HS [([2], ⟨true, 29, 4, [eImg ⟨r, t, s, d⟩], none⟩)]⟩)
     (fun r n _ => match firstAt (fun n => decide (n.name = v)) r n with
    | some k => (.ret, ⟨SS [(4, .int .i64 k)], HE⟩)
    | none => (.exit 0, ⟨SS [], HE⟩)) () trivial ?_ ?_ ?_ ?_ ?_
  · simp [go_sem, eImg]
  · intro n _ x t hn hx hd _
    have hx := hx hn
    by_cases hq : x.name = v
    · simp [go_sem, eImg, eSnp, firstAt, hq, hn, hx]
    · simp [go_sem, eImg, eSnp, firstAt, hq, hn, hx, wrap_id (n := (n : Int) + 1) (by omega)]
  · intro _ _; simp [go_sem, eImg, firstAt]
  · intro _; simp [firstAt]
  · cases hr : firstAt (fun n => decide (n.name = v)) s 0 <;> simp [go_sem, hr, idxOf]
/-! What is lent. -/
def lImg (r t : List Int) (s : List Snp) (d : List Int) : AV := .agg [.ref [0, 0] 0 r.length, .ref [0, 1] 0 t.length, .ref [0, 2] 0 s.length, .ref [0, 3] 0 d.length]
def lRows (r t : List Int) (s : List Snp) (d : List Int) : List (Id × Blk) := [([0, 0], rI r), ([0, 1], rI t), ([0, 2], rSp s), ([0, 3], rI d)]
theorem dropS_bd {p : List Int × List Int} {e K : Int} (h : ∀ x ∈ p.1, -K ≤ x ∧ x ≤ K) (hK : 0 ≤ K) : ∀ x ∈ (dropS p e).1, -(K + 1) ≤ x ∧ x ≤ K + 1 := by
  intro x hx
  unfold dropS at hx
  split at hx
  · have := h x hx; omega
  · rcases List.mem_or_eq_of_mem_set hx with h' | rfl
    · have := h x h'; omega
    · rw [List.getD_eq_getElem?_getD]
      cases hg : p.1[(e - 2).toNat]? with
      | none => simp; omega
      | some v =>
        have := h v (List.mem_of_getElem? hg)
        simp; omega
theorem sDrop_E (r t : List Int) (s : List Snp) (d : List Int) (e : Int) (hr : r.length = 24) (hd : d.length = 24) (he : e ≤ 25) (hb : ∀ x ∈ r, -1000000 ≤ x ∧ x ≤ 1000000) : E CX 55 [lImg r t s d, .int .i64 e] (lRows r t s d) = some { val := lImg r t s d, io := [rI (dropS (r, d) e).1, rI t, rSp s, rI (dropS (r, d) e).2] } := by
  refine E_fin Tryz.f55 _ an55 rfl rfl rfl Tryz.func55 rfl (by kernel_rfl) ?_
  by_cases c : e < 2
  · simp [go_sem, lImg, lRows, rI, rSp, dropS, c]
  · have hc : (e - 2).toNat < r.length := by omega
    have hc24 : (e - 2).toNat < 24 := by omega
    have hcd : (e - 2).toNat < d.length := by omega
    obtain ⟨v, gv⟩ : ∃ v, r[(e - 2).toNat] = v := ⟨_, rfl⟩
    have hv := hb v (by rw [← gv]; exact List.getElem_mem hc)
    have gd : r.getD (e - 2).toNat 0 = v := by rw [List.getD_eq_getElem?_getD, List.getElem?_eq_getElem hc, gv]; rfl
    have hset : (r.set (e - 2).toNat (v - 1)).getD (e - 2).toNat 0 = v - 1 := by rw [getD_set _ _ _ _ hc, if_pos rfl]
    have hds : dropS (r, d) e = (r.set (e - 2).toNat (v - 1), if v - 1 = 0 then d.set (e - 2).toNat 0 else d) := by
      unfold dropS
      simp only
      rw [if_neg c, gd, hset]
    rw [hds]
    have p0 : (2 : Int) ≤ e := by omega
    by_cases c2 : v - 1 = 0
    · have c3 : v = 1 := by omega
      subst c3
      simp [go_sem, lImg, lRows, rI, rSp, c, hr, hd, hc24, gv, p0, wrap_id (n := e - 2) (by omega), show IntKind.i64.wrap 0 = 0 by decide]
    · simp [go_sem, lImg, lRows, rI, rSp, c, c2, hr, hd, hc24, gv, p0, wrap_id (n := e - 2) (by omega), wrap_id (n := v - 1) (by omega)]
end Go.Proofs.YtenmfblmekilaaaGreat


namespace Go.Proofs.YtenmfblmekilaaaGreat
open Go
set_option maxRecDepth 100000
set_option maxHeartbeats 2000000
set_option linter.unusedSimpArgs false
set_option linter.unusedVariables false
/-- Answers of the reference: an image of rows of its own; with a code. -/
def resM (m : Img) : Res := { val := oImg m, own := oRowp m }
def resS (m : Img) (c : Int) : Res := { val := .tuple [oImg m, .int .i64 c], own := oRowp m }
theorem sRaise_E (r t : List Int) (s : List Snp) (d : List Int) (T : List Int) (hT : tabOK T = true) (hr : r.length = 24) (hb : ∀ x ∈ r, 0 ≤ x ∧ x ≤ 1000000) :
    E CX 45 [lImg r t s d, .sl 1 (T.map (.int .i64))] (lRows r t s d) = some { val := lImg r t s d, io := [rI ((clus T).foldl bump r), rI t, rSp s, rI d] } := by
  have e1 := sClusters_E T (by have := tabOK_len hT; omega) (fun x hx => tab_le' hT x hx)
  have hcl := clus_len T
  have h12 := tabOK_len hT
  have hcm : ∀ c ∈ clus T, 0 ≤ c ∧ c < 24 := fun c hc => tab_clus hT hc
  generalize clus T = cs at *
  refine E_fin Tryz.f45 _ an45 rfl rfl rfl Tryz.func45 rfl (by kernel_rfl) ?_
  simp [go_sem, lImg, lRows, rI, rSp, e1, hr]
  refine loop_for (fun X => fin CX _ _ X = _) cs (fun k (b : List Int) => b.length = 24 ∧ ∀ x ∈ b, 0 ≤ x ∧ x ≤ 1000000 + (k : Int)) (fun k b => ⟨SS [(2, .ptr [2] 0 0), (4, .ptr [4] 0 0), (5, .sl 1 (cs.map (.int .i64))), (6, .int .i64 k)], HS [([2], ⟨true, 29, 4, [.agg [.ref [0, 0] 0 24, .ref [0, 1] 0 t.length, .ref [0, 2] 0 s.length, .ref [0, 3] 0 d.length]], none⟩), ([4], ⟨true, 29, 4, [.agg [.nil, .nil, .nil, .nil]], none⟩), ([0, 0], rI b), ([0, 1], rI t), ([0, 2], rSp s), ([0, 3], rI d)]⟩)
    (fun q k b => (.exit 0, ⟨SS [(2, .ptr [2] 0 0), (4, .ptr [4] 0 0)], HS [([2], ⟨true, 29, 4, [.agg [.ref [0, 0] 0 24, .ref [0, 1] 0 t.length, .ref [0, 2] 0 s.length, .ref [0, 3] 0 d.length]], none⟩), ([4], ⟨true, 29, 4, [.agg [.nil, .nil, .nil, .nil]], none⟩), ([0, 0], rI (q.foldl bump b)), ([0, 1], rI t), ([0, 2], rSp s), ([0, 3], rI d)]⟩)) r ⟨hr, fun x hx => by have := hb x hx; omega⟩ ?_ ?_ ?_ ?_ ?_
  · simp [go_sem, rI, rSp]
  · rintro R k b c r' hk hy hd' ⟨hJ1, hJ2⟩ hR
    have hy := hy hk
    have hc2 := hcm c (by rw [← hy]; exact List.getElem_mem hk)
    have := hR (bump b c) ⟨by rw [bump_len]; exact hJ1, fun x hx => by have := bump_bd (c := c) hJ2 (by omega) x hx; omega⟩ (by simp)
    have hlt : c.toNat < b.length := by omega
    obtain ⟨v, gv⟩ : ∃ v, b[c.toNat] = v := ⟨_, rfl⟩
    have hv := hJ2 v (by rw [← gv]; exact List.getElem_mem hlt)
    have hb : bump b c = b.set c.toNat (v + 1) := by unfold bump; rw [List.getD_eq_getElem?_getD, List.getElem?_eq_getElem hlt, gv]; rfl
    rw [hb] at this
    simp [go_sem, rI, rSp] at this
    simp [go_sem, rI, rSp, hk, hy, hc2.1, hJ1, show c.toNat < 24 by omega, gv, wrap_id (n := v + 1) (by omega), wrap_id (n := (k : Int) + 1) (by omega)]
    exact this
  · intro b hJ; simp [go_sem, rI, rSp]
  · intro _; simp
  · simp [go_sem, rI, rSp]
theorem sRaiseT_E (r t : List Int) (s : List Snp) (d : List Int) (hT : tabOK t = true) (hr : r.length = 24) (hb : ∀ x ∈ r, 0 ≤ x ∧ x ≤ 1000000) :
    E CX 45 [lImg r t s d, .ref [0, 1] 0 t.length] (lRows r t s d) = some { val := lImg r t s d, io := [rI ((clus t).foldl bump r), rI t, rSp s, rI d] } := by
  have e1 := sClusters_E t (by have := tabOK_len hT; omega) (fun x hx => tab_le' hT x hx)
  have hcl := clus_len t
  have h12 := tabOK_len hT
  have hcm : ∀ c ∈ clus t, 0 ≤ c ∧ c < 24 := fun c hc => tab_clus hT hc
  generalize clus t = cs at *
  refine E_fin Tryz.f45 _ an45 rfl rfl rfl Tryz.func45 rfl (by kernel_rfl) ?_
  simp [go_sem, lImg, lRows, rI, rSp, e1, hr]
  refine loop_for (fun X => fin CX _ _ X = _) cs (fun k (b : List Int) => b.length = 24 ∧ ∀ x ∈ b, 0 ≤ x ∧ x ≤ 1000000 + (k : Int)) (fun k b => ⟨SS [(2, .ptr [2] 0 0), (4, .ptr [4] 0 0), (5, .sl 1 (cs.map (.int .i64))), (6, .int .i64 k)], HS [([2], ⟨true, 29, 4, [.agg [.ref [0, 0] 0 24, .ref [0, 1] 0 t.length, .ref [0, 2] 0 s.length, .ref [0, 3] 0 d.length]], none⟩), ([4], ⟨true, 29, 4, [.agg [.nil, .nil, .nil, .nil]], none⟩), ([0, 0], rI b), ([0, 1], rI t), ([0, 2], rSp s), ([0, 3], rI d)]⟩)
    (fun q k b => (.exit 0, ⟨SS [(2, .ptr [2] 0 0), (4, .ptr [4] 0 0)], HS [([2], ⟨true, 29, 4, [.agg [.ref [0, 0] 0 24, .ref [0, 1] 0 t.length, .ref [0, 2] 0 s.length, .ref [0, 3] 0 d.length]], none⟩), ([4], ⟨true, 29, 4, [.agg [.nil, .nil, .nil, .nil]], none⟩), ([0, 0], rI (q.foldl bump b)), ([0, 1], rI t), ([0, 2], rSp s), ([0, 3], rI d)]⟩)) r ⟨hr, fun x hx => by have := hb x hx; omega⟩ ?_ ?_ ?_ ?_ ?_
  · simp [go_sem, rI, rSp]
  · rintro R k b c r' hk hy hd' ⟨hJ1, hJ2⟩ hR
    have hy := hy hk
    have hc2 := hcm c (by rw [← hy]; exact List.getElem_mem hk)
    have := hR (bump b c) ⟨by rw [bump_len]; exact hJ1, fun x hx => by have := bump_bd (c := c) hJ2 (by omega) x hx; omega⟩ (by simp)
    have hlt : c.toNat < b.length := by omega
    obtain ⟨v, gv⟩ : ∃ v, b[c.toNat] = v := ⟨_, rfl⟩
    have hv := hJ2 v (by rw [← gv]; exact List.getElem_mem hlt)
    have hb : bump b c = b.set c.toNat (v + 1) := by unfold bump; rw [List.getD_eq_getElem?_getD, List.getElem?_eq_getElem hlt, gv]; rfl
    rw [hb] at this
    simp [go_sem, rI, rSp] at this
    simp [go_sem, rI, rSp, hk, hy, hc2.1, hJ1, show c.toNat < 24 by omega, gv, wrap_id (n := v + 1) (by omega), wrap_id (n := (k : Int) + 1) (by omega)]
    exact this
  · intro b hJ; simp [go_sem, rI, rSp]
  · intro _; simp
  · simp [go_sem, rI, rSp]
theorem refs_bd {m : Img} (P : NearP m) : ∀ x ∈ m.refs, -15 ≤ x ∧ x ≤ 15 := fun x hx => by have := P.refsI x hx; omega
theorem dropsS_len : ∀ (q : List Int) (p : List Int × List Int), (q.foldl dropS p).1.length = p.1.length ∧ (q.foldl dropS p).2.length = p.2.length := by
  intro q
  induction q with
  | nil => intro p; exact ⟨rfl, rfl⟩
  | cons e q ih =>
    intro p
    simp only [List.foldl_cons]
    obtain ⟨h1, h2⟩ := ih (dropS p e)
    obtain ⟨h3, h4⟩ := dropS_len (p := p) e
    exact ⟨h1.trans h3, h2.trans h4⟩
end Go.Proofs.YtenmfblmekilaaaGreat


namespace Go.Proofs.YtenmfblmekilaaaGreat
open Go
set_option maxRecDepth 100000
set_option maxHeartbeats 2000000
set_option linter.unusedSimpArgs false
set_option linter.unusedVariables false
theorem sCreateX_E (m : Img) (P : ImgP m) (x : Tx) (hx : x.length ≤ 1099511627776) : E CX 20 [eImg m, .str x] [] = some (resS (createA m x).1 (createA m x).2) := by
  have e1 := sOwn_E m P.b
  have e2 := sName_E x hx
  have e3 := sFind_E m x (by have := P.snaps; omega)
  have e4 := sRaiseT_E m.refs m.tab m.snaps m.data P.tab.1 P.refs (fun x hx => by have := P.refsI x hx; omega)
  have hz : createA m x = if snameOK x = false then (m, 12) else if 0 ≤ findA m x then (m, 8) else if m.snaps.length = 3 then (m, 6) else (createS m x, 0) := by
    unfold createA; rw [create_same P]
  rw [hz]
  have hr := P.refs
  have hd := P.data
  have ht := P.tab.1
  have ht12 := tabOK_len ht
  have hsn := P.snaps
  have hbl := bumps_len (clus m.tab) m.refs
  have hcs : createS m x = ⟨(clus m.tab).foldl bump m.refs, m.tab, m.snaps ++ [⟨x, m.tab⟩], m.data⟩ := rfl
  rw [hcs]
  generalize (clus m.tab).foldl bump m.refs = b at *
  obtain ⟨r, t, s, d⟩ := m
  simp only [eImg] at e1 e3 e4 hr hd ht12 hsn hbl ⊢
  generalize findA ⟨r, t, s, d⟩ x = k at *
  rw [hr] at hbl
  simp only [lImg, lRows, hr, hd, rI, rSp] at e4
  simp only [oImg, oRowp, hr, hd, rI, rSp] at e1
  have h3b : ((s.length : Int) == 3) = decide (s.length = 3) := by
    have := beq_nat s.length 3; simpa using this
  cases c2 : snameOK x
  · rw [c2] at e2
    refine E_fin Tryz.f20 _ an20 rfl rfl rfl Tryz.func20 rfl (by kernel_rfl) ?_
    simp [go_sem, eImg, e1, e2, resS, oImg, oRowp, hr, hd, rI, rSp]
  rw [c2] at e2
  rw [if_neg (by simp)]
  by_cases c3 : 0 ≤ k
  · rw [if_pos c3]
    refine E_fin Tryz.f20 _ an20 rfl rfl rfl Tryz.func20 rfl (by kernel_rfl) ?_
    simp [go_sem, eImg, e1, e2, e3, c3, resS, oImg, oRowp, hr, hd, rI, rSp]
  rw [if_neg c3]
  by_cases c4 : s.length = 3
  · rw [if_pos c4]
    refine E_fin Tryz.f20 _ an20 rfl rfl rfl Tryz.func20 rfl (by kernel_rfl) ?_
    simp [go_sem, eImg, e1, e2, e3, c3, c4, resS, oImg, oRowp, hr, hd, rI, rSp]
  rw [if_neg c4]
  have c4' : ¬ (s.length : Int) = 3 := by omega
  refine E_fin Tryz.f20 _ an20 rfl rfl rfl Tryz.func20 rfl (by kernel_rfl) ?_
  simp [go_sem, eImg, eSnp, e1, e2, e3, e4, c3, c4, c4', h3b, resS, oImg, oRowp, hr, hd, hbl, rI, rSp, show t.length ≤ 1073741824 by omega, show s.length + 1 ≤ 1073741824 by omega]
theorem snap_mem {m : Img} (P : ImgP m) {k : Nat} (hk : k < m.snaps.length) : ∃ y, m.snaps[k] = y ∧ snapAt m k = y.tab ∧ tabOK y.tab = true := by
  refine ⟨_, rfl, ?_, ?_⟩
  · simp [snapAt, List.getD_eq_getElem?_getD, List.getElem?_eq_getElem hk]
  · have := (P.snap hk).1
    simpa [snapAt, List.getD_eq_getElem?_getD, List.getElem?_eq_getElem hk] using this
theorem sDeleteX_E (m : Img) (P : ImgP m) (x : Tx) : E CX 38 [eImg m, .str x] [] = some (resS (deleteA m x).1 (deleteA m x).2) := by
  have e1 := sOwn_E m P.b
  have e3 := sFind_E m x (by have := P.snaps; omega)
  have hr := P.refs
  have hd := P.data
  have ht12 := tabOK_len P.tab.1
  have hsn := P.snaps
  have hbd := refs_bd P.toNearP
  rcases findA_spec m x with ⟨h1, _⟩ | ⟨k, h1, h2, _⟩
  · have hz : deleteA m x = (m, 5) := by unfold deleteA; rw [h1]; rfl
    rw [hz]
    rw [h1] at e3
    obtain ⟨r, t, s, d⟩ := m
    simp only [eImg, oImg, oRowp, rI, rSp] at e1 e3 hr hd
    simp only [hr, hd] at e1
    have tk1 : List.take 24 (r.map (AV.int .i64)) = r.map (AV.int .i64) := List.take_of_length_le (by simp [hr])
    have tk2 : List.take 24 (d.map (AV.int .i64)) = d.map (AV.int .i64) := List.take_of_length_le (by simp [hd])
    refine E_fin Tryz.f38 _ an38 rfl rfl rfl Tryz.func38 rfl (by kernel_rfl) ?_
    simp [go_sem, eImg, e1, e3, tk1, tk2, resS, oImg, oRowp, hr, hd, rI, rSp]
  · have hz : deleteA m x = (deleteS m k, 0) := by
      unfold deleteA
      rw [h1, if_neg (by omega), Int.toNat_natCast, delete_same P h2]
    rw [hz]
    rw [h1] at e3
    obtain ⟨y, gy, hat, hy⟩ := snap_mem P h2
    have hy12 := tabOK_len hy
    have hds : deleteS m k = ⟨((snapAt m k).foldl dropS (m.refs, m.data)).1, m.tab, m.snaps.eraseIdx k, ((snapAt m k).foldl dropS (m.refs, m.data)).2⟩ := rfl
    rw [hds, hat]
    have hl := dropsS_len y.tab (m.refs, m.data)
    simp only [hr, hd] at hl
    have hx25 : ∀ e ∈ y.tab, e ≤ 25 := fun e he => tab_le' hy e he
    obtain ⟨r, t, s, d⟩ := m
    simp only [eImg, oImg, oRowp, rI, rSp] at e1 e3 hr hd ht12 hsn hbd h2 gy
    simp only [hr, hd] at e1
    have her : s.eraseIdx k = s.take k ++ s.drop (k + 1) := List.eraseIdx_eq_take_drop_succ s k
    have hel : (s.eraseIdx k).length = s.length - 1 := by rw [List.length_eraseIdx, if_pos h2]
    generalize hys : y.tab = ys at *
    have tk1 : List.take 24 (r.map (AV.int .i64)) = r.map (AV.int .i64) := List.take_of_length_le (by simp [hr])
    have tk2 : List.take 24 (d.map (AV.int .i64)) = d.map (AV.int .i64) := List.take_of_length_le (by simp [hd])
    refine E_fin Tryz.f38 _ an38 rfl rfl rfl Tryz.func38 rfl (by kernel_rfl) ?_
    simp [go_sem, eImg, e1, e3, tk1, tk2, hr, hd, show ¬ (k : Int) < 0 by omega]
    refine loop_for (fun X => fin CX _ _ X = _) ys (fun n (b : List Int × List Int) => b.1.length = 24 ∧ b.2.length = 24 ∧ ∀ x ∈ b.1, -(15 + (n : Int)) ≤ x ∧ x ≤ 15 + (n : Int)) (fun n b => ⟨SS [(2, .ptr [2] 0 0), (4, .ptr [4] 0 0), (6, .int .i64 k), (7, .int .i64 n)], HS [([2], ⟨true, 29, 4, [.agg [.ref [70] 0 24, .ref [71] 0 t.length, .ref [72] 0 s.length, .ref [73] 0 24]], none⟩), ([4], ⟨true, 29, 4, [.agg [.nil, .nil, .nil, .nil]], none⟩), ([70], rI b.1), ([71], rI t), ([72], rSp s), ([73], rI b.2)]⟩)
      (fun q n b => (.exit 0, ⟨SS [(2, .ptr [2] 0 0), (4, .ptr [4] 0 0), (6, .int .i64 k)], HS [([2], ⟨true, 29, 4, [.agg [.ref [70] 0 24, .ref [71] 0 t.length, .ref [72] 0 s.length, .ref [73] 0 24]], none⟩), ([4], ⟨true, 29, 4, [.agg [.nil, .nil, .nil, .nil]], none⟩), ([70], rI (q.foldl dropS b).1), ([71], rI t), ([72], rSp s), ([73], rI (q.foldl dropS b).2)]⟩)) (r, d) ⟨hr, hd, fun x hx => by have := hbd x hx; omega⟩ ?_ ?_ ?_ ?_ ?_
    · simp [go_sem, rI, rSp]
    · rintro R n ⟨b1, b2⟩ e q hn hw hd' ⟨hJ1, hJ2, hJ3⟩ hR
      simp only at hJ1 hJ2 hJ3
      have hw := hw hn
      have he := hx25 e (by rw [← hw]; exact List.getElem_mem hn)
      have e4 := sDrop_E b1 t s b2 e hJ1 hJ2 he (fun x hx => by have := hJ3 x hx; omega)
      have hbd2 := dropS_bd (p := (b1, b2)) (e := e) hJ3 (by omega)
      have hl2 := dropS_len (p := (b1, b2)) e
      have := hR (dropS (b1, b2) e) ⟨by rw [hl2.1]; exact hJ1, by rw [hl2.2]; exact hJ2, fun x hx => by have := hbd2 x hx; omega⟩ (by simp)
      generalize dropS (b1, b2) e = p at *
      simp only [lImg, lRows, hJ1, hJ2, rI, rSp] at e4
      simp [go_sem, rI, rSp] at this
      simp [go_sem, rI, rSp, eSnp, e4, h2, gy, hys, hn, hw, wrap_id (n := (n : Int) + 1) (by omega)]
      exact this
    · intro b hJ
      simp [go_sem, rI, rSp, eSnp, h2, gy, hys]
    · intro _; simp
    · have w1 : IntKind.i64.wrap ((k : Int) + 1) = (k : Int) + 1 := wrap_id (by omega)
      have k1 : ((k : Int) + 1).toNat = k + 1 := by omega
      simp [go_sem, rI, rSp, resS, oImg, oRowp, hl.1, hl.2, h2, w1, k1, her, show k ≤ s.length by omega, show (k : Int) ≤ s.length by omega, show k + 1 ≤ s.length by omega, show (k : Int) + 1 ≤ s.length by omega, show (0 : Int) ≤ (k : Int) + 1 by omega, show k ≤ 1073741824 by omega, show k + (s.length - (k + 1)) ≤ 1073741824 by omega, show s.length ≤ 1073741824 by omega]
theorem sRevertX_E (m : Img) (P : ImgP m) (x : Tx) : E CX 37 [eImg m, .str x] [] = some (resS (revertA m x).1 (revertA m x).2) := by
  have e1 := sOwn_E m P.b
  have e3 := sFind_E m x (by have := P.snaps; omega)
  have hr := P.refs
  have hd := P.data
  have ht := P.tab.1
  have ht12 := tabOK_len P.tab.1
  have hsn := P.snaps
  have hrI := P.refsI
  rcases findA_spec m x with ⟨h1, _⟩ | ⟨k, h1, h2, _⟩
  · have hz : revertA m x = (m, 5) := by unfold revertA; rw [h1]; rfl
    rw [hz]
    rw [h1] at e3
    obtain ⟨r, t, s, d⟩ := m
    simp only [eImg, oImg, oRowp, rI, rSp] at e1 e3 hr hd
    simp only [hr, hd] at e1
    have tk1 : List.take 24 (r.map (AV.int .i64)) = r.map (AV.int .i64) := List.take_of_length_le (by simp [hr])
    have tk2 : List.take 24 (d.map (AV.int .i64)) = d.map (AV.int .i64) := List.take_of_length_le (by simp [hd])
    refine E_fin Tryz.f37 _ an37 rfl rfl rfl Tryz.func37 rfl (by kernel_rfl) ?_
    simp [go_sem, eImg, e1, e3, tk1, tk2, resS, oImg, oRowp, hr, hd, rI, rSp]
  · have hz : revertA m x = (revertS m k, 0) := by
      unfold revertA
      rw [h1, if_neg (by omega), Int.toNat_natCast, revert_same P h2]
    rw [hz]
    rw [h1] at e3
    obtain ⟨y, gy, hat, hy⟩ := snap_mem P h2
    have hy12 := tabOK_len hy
    have hds : revertS m k = ⟨(m.tab.foldl dropS ((clus (snapAt m k)).foldl bump m.refs, m.data)).1, snapAt m k, m.snaps, (m.tab.foldl dropS ((clus (snapAt m k)).foldl bump m.refs, m.data)).2⟩ := rfl
    rw [hds, hat]
    have e5 := sRaise_E m.refs m.tab m.snaps m.data y.tab hy hr (fun x hx => by have := hrI x hx; omega)
    have hbl := bumps_len (clus y.tab) m.refs
    have hcl := clus_len y.tab
    have hbb := bumps_bd (clus y.tab) m.refs 15 (fun x hx => hrI x hx) (by omega)
    generalize (clus y.tab).foldl bump m.refs = r1 at *
    rw [hr] at hbl
    have hl := dropsS_len m.tab (r1, m.data)
    simp only [hbl, hd] at hl
    have hx25 : ∀ e ∈ m.tab, e ≤ 25 := fun e he => tab_le' ht e he
    obtain ⟨r, t, s, d⟩ := m
    simp only [eImg, oImg, oRowp, rI, rSp, lImg, lRows] at e1 e3 e5 hr hd ht12 hsn h2 gy hl
    simp only [hr, hd] at e1 e5
    generalize hys : y.tab = ys at *
    have tk1 : List.take 24 (r.map (AV.int .i64)) = r.map (AV.int .i64) := List.take_of_length_le (by simp [hr])
    have tk2 : List.take 24 (d.map (AV.int .i64)) = d.map (AV.int .i64) := List.take_of_length_le (by simp [hd])
    refine E_fin Tryz.f37 _ an37 rfl rfl rfl Tryz.func37 rfl (by kernel_rfl) ?_
    simp [go_sem, eImg, eSnp, e1, e3, e5, tk1, tk2, hr, hd, h2, gy, hys, show ¬ (k : Int) < 0 by omega]
    refine loop_for (fun X => fin CX _ _ X = _) t (fun n (b : List Int × List Int) => b.1.length = 24 ∧ b.2.length = 24 ∧ ∀ x ∈ b.1, -(100 + (n : Int)) ≤ x ∧ x ≤ 100 + (n : Int)) (fun n b => ⟨SS [(2, .ptr [2] 0 0), (4, .ptr [4] 0 0), (6, .int .i64 k), (7, .int .i64 n)], HS [([2], ⟨true, 29, 4, [.agg [.ref [70] 0 24, .ref [71] 0 t.length, .ref [72] 0 s.length, .ref [73] 0 24]], none⟩), ([4], ⟨true, 29, 4, [.agg [.nil, .nil, .nil, .nil]], none⟩), ([70], rI b.1), ([71], rI t), ([72], rSp s), ([73], rI b.2)]⟩)
      (fun q n b => (.exit 0, ⟨SS [(2, .ptr [2] 0 0), (4, .ptr [4] 0 0), (6, .int .i64 k)], HS [([2], ⟨true, 29, 4, [.agg [.ref [70] 0 24, .ref [71] 0 t.length, .ref [72] 0 s.length, .ref [73] 0 24]], none⟩), ([4], ⟨true, 29, 4, [.agg [.nil, .nil, .nil, .nil]], none⟩), ([70], rI (q.foldl dropS b).1), ([71], rI t), ([72], rSp s), ([73], rI (q.foldl dropS b).2)]⟩)) (r1, d) ⟨hbl, hd, fun x hx => by have := hbb x hx; omega⟩ ?_ ?_ ?_ ?_ ?_
    · simp [go_sem, rI, rSp]
    · rintro R n ⟨b1, b2⟩ e q hn hw hd' ⟨hJ1, hJ2, hJ3⟩ hR
      simp only at hJ1 hJ2 hJ3
      have hw := hw hn
      have he := hx25 e (by rw [← hw]; exact List.getElem_mem hn)
      have e4 := sDrop_E b1 t s b2 e hJ1 hJ2 he (fun x hx => by have := hJ3 x hx; omega)
      have hbd2 := dropS_bd (p := (b1, b2)) (e := e) hJ3 (by omega)
      have hl2 := dropS_len (p := (b1, b2)) e
      have := hR (dropS (b1, b2) e) ⟨by rw [hl2.1]; exact hJ1, by rw [hl2.2]; exact hJ2, fun x hx => by have := hbd2 x hx; omega⟩ (by simp)
      generalize dropS (b1, b2) e = p at *
      simp only [lImg, lRows, hJ1, hJ2, rI, rSp] at e4
      simp [go_sem, rI, rSp] at this
      simp [go_sem, rI, rSp, e4, hn, hw, wrap_id (n := (n : Int) + 1) (by omega)]
      exact this
    · intro b hJ
      simp [go_sem, rI, rSp]
    · intro _; simp
    · simp [go_sem, rI, rSp, eSnp, resS, oImg, oRowp, hl.1, hl.2, h2, gy, hys, show ys.length ≤ 1073741824 by omega]
end Go.Proofs.YtenmfblmekilaaaGreat


namespace Go.Proofs.YtenmfblmekilaaaGreat
open Go
set_option maxRecDepth 100000
set_option linter.unusedSimpArgs false
set_option linter.unusedVariables false
theorem isNumber_E (n : Int) : E CX 69 [.int .i64 n] [] = some { val := .bool (isNum n) } := by
  refine E_fin Tryz.f69 _ an69 rfl rfl rfl Tryz.func69 rfl (by kernel_rfl) ?_
  simp [go_sem, within_E, isNum]
theorem fd (n : Int) : n.fdiv 256 = n / 256 ∧ n.fdiv 65536 = n / 65536 ∧ n.fdiv 16777216 = n / 16777216 :=
  ⟨Int.fdiv_eq_ediv_of_nonneg _ (by omega), Int.fdiv_eq_ediv_of_nonneg _ (by omega), Int.fdiv_eq_ediv_of_nonneg _ (by omega)⟩
/-- Bits of numbers that do not meet. -/
theorem or_add (s x m : Nat) (hx : x < 2 ^ s) (h : x + m * 2 ^ s < 9223372036854775808) : IntKind.i64.wrap ((BitVec.ofInt 64 (x : Int) ||| BitVec.ofInt 64 ((m * 2 ^ s : Nat) : Int)).toNat : Int) = ((x + m * 2 ^ s : Nat) : Int) := by
  have e : (BitVec.ofInt 64 (x : Int) ||| BitVec.ofInt 64 ((m * 2 ^ s : Nat) : Int)).toNat = x + m * 2 ^ s := by
    rw [BitVec.toNat_or]
    rw [BitVec.ofInt_natCast, BitVec.ofInt_natCast, BitVec.toNat_ofNat, BitVec.toNat_ofNat, Nat.mod_eq_of_lt (by omega), Nat.mod_eq_of_lt (by omega), Nat.or_comm, Nat.mul_comm m, Nat.add_comm]
    exact (Nat.two_pow_add_eq_or_of_lt hx m).symm
  rw [e]
  exact wrap_id (by omega)
theorem or2 (a b : UInt8) : IntKind.i64.wrap ((BitVec.ofNat 64 a.toNat ||| BitVec.ofInt 64 ((b.toNat : Int) * 256)).toNat : Int) = (a.toNat : Int) + 256 * b.toNat := by
  have h1 := a.toNat_lt; have h2 := b.toNat_lt
  have := or_add 8 a.toNat b.toNat (by omega) (by omega)
  rw [BitVec.ofInt_natCast] at this
  simp only [Nat.reducePow, Int.natCast_mul, Int.natCast_add, Int.cast_ofNat_Int] at this
  rw [this]; omega
theorem or3 (a b c : UInt8) : IntKind.i64.wrap ((BitVec.ofInt 64 ((a.toNat : Int) + 256 * b.toNat) ||| BitVec.ofInt 64 ((c.toNat : Int) * 65536)).toNat : Int) = (a.toNat : Int) + 256 * b.toNat + 65536 * c.toNat := by
  have h1 := a.toNat_lt; have h2 := b.toNat_lt; have h3 := c.toNat_lt
  have := or_add 16 (a.toNat + 256 * b.toNat) c.toNat (by omega) (by omega)
  simp only [Nat.reducePow, Int.natCast_mul, Int.natCast_add, Int.cast_ofNat_Int] at this
  rw [this]; omega
theorem or4 (a b c d : UInt8) : IntKind.i64.wrap ((BitVec.ofInt 64 ((a.toNat : Int) + 256 * b.toNat + 65536 * c.toNat) ||| BitVec.ofInt 64 ((d.toNat : Int) * 16777216)).toNat : Int) = numOf a b c d := by
  have h1 := a.toNat_lt; have h2 := b.toNat_lt; have h3 := c.toNat_lt; have h4 := d.toNat_lt
  have := or_add 24 (a.toNat + 256 * b.toNat + 65536 * c.toNat) d.toNat (by omega) (by omega)
  simp only [Nat.reducePow, Int.natCast_mul, Int.natCast_add, Int.cast_ofNat_Int] at this
  rw [this]; unfold numOf; omega
theorem nums_cut {t : Tx} {n : Nat} (h : 4 * n + 4 ≤ t.length) : ∃ a b c d, t[4 * n]? = some a ∧ t[4 * n + 1]? = some b ∧ t[4 * n + 2]? = some c ∧ t[4 * n + 3]? = some d ∧ t.drop (4 * n) = a :: b :: c :: d :: t.drop (4 * (n + 1)) := by
  refine ⟨t[4 * n], t[4 * n + 1], t[4 * n + 2], t[4 * n + 3], List.getElem?_eq_getElem _, List.getElem?_eq_getElem _, List.getElem?_eq_getElem _, List.getElem?_eq_getElem _, ?_⟩
  rw [List.drop_eq_getElem_cons (by omega), List.drop_eq_getElem_cons (i := 4 * n + 1) (by omega), List.drop_eq_getElem_cons (i := 4 * n + 1 + 1) (by omega), List.drop_eq_getElem_cons (i := 4 * n + 1 + 1 + 1) (by omega)]
  rfl
theorem nums_short {t : Tx} (h : t.length < 4) : nums t = [] := by
  match t, h with
  | [], _ => rfl
  | [a], _ => rfl
  | [a, b], _ => rfl
  | [a, b, c], _ => rfl
end Go.Proofs.YtenmfblmekilaaaGreat


namespace Go.Proofs.YtenmfblmekilaaaGreat
open Go
set_option maxRecDepth 100000
set_option linter.unusedSimpArgs false
set_option linter.unusedVariables false
structure Update where
  at_ : Int
  data : List UInt8
  deriving Inhabited, DecidableEq
def eUpdate (x : Update) : AV := .agg [.int .i64 (x.at_), .str (x.data)]
theorem sharesL_eUpdate (l : List Update) : AV.sharesL (l.map eUpdate) = false := sharesL_map (fun _ => by simp [eUpdate, go_sem]) l
theorem sharesL_repeUpdate (n : Nat) (x : Update) : AV.sharesL (List.replicate n (eUpdate x)) = false := sharesL_rep _ (by simp [eUpdate, go_sem]) n
attribute [go_sem] sharesL_eUpdate sharesL_repeUpdate
def mkUpdate (k : Int) (n : Nat) : List Update := (List.range n).map fun i : Nat => ⟨k + 2 * i + 0, mt (k + 2 * i + 1)⟩
theorem mkUpdate_succ (k : Int) (n : Nat) : mkUpdate k (n + 1) = mkUpdate k n ++ [⟨k + 2 * n + 0, mt (k + 2 * n + 1)⟩] := by simp [mkUpdate, List.range_succ]
theorem mkUpdate_length (k : Int) (n : Nat) : (mkUpdate k n).length = n := by simp [mkUpdate]
end Go.Proofs.YtenmfblmekilaaaGreat


namespace Go.Proofs.YtenmfblmekilaaaGreat
open Go
set_option maxRecDepth 100000
set_option maxHeartbeats 1000000
set_option linter.unusedSimpArgs false
set_option linter.unusedVariables false
end Go.Proofs.YtenmfblmekilaaaGreat


namespace Go.Proofs.YtenmfblmekilaaaGreat
open Go
set_option maxRecDepth 100000
set_option maxHeartbeats 1000000
set_option linter.unusedSimpArgs false
set_option linter.unusedVariables false
end Go.Proofs.YtenmfblmekilaaaGreat


namespace Go.Proofs.YtenmfblmekilaaaGreat
open Go
set_option maxRecDepth 100000
set_option maxHeartbeats 4000000
set_option linter.unusedSimpArgs false
set_option linter.unusedVariables false
def snapNs : List Tx := [[97], [98], [99], [115, 110, 97, 112]]
theorem snap_ok {x : Tx} (h : x ∈ snapNs) : snameOK x = true ∧ x.length ≤ 4 := by
  simp [snapNs] at h
  rcases h with rfl | rfl | rfl | rfl <;> decide
structure DrawnI (m : Img) : Prop where
  ok : imgOK m = true
  names : ∀ s ∈ m.snaps, s.name ∈ snapNs
theorem newI_ok (n : Nat) (h : n ≤ 12) : imgOK (newI n) = true := by
  have hc : ∀ n : Nat, clus (List.replicate n 0) = [] := by
    intro n
    induction n with
    | zero => rfl
    | succ n ih => rw [List.replicate_succ]; unfold clus; rw [if_neg (by omega)]; exact ih
  have rep : ∀ (k : Nat) (i : Nat), (List.replicate k (0 : Int)).getD i 0 = 0 := fun k i => by
    rw [List.getD_eq_getElem?_getD, List.getElem?_replicate]; split <;> rfl
  have ht : tabs (newI n) = [List.replicate n 0] := rfl
  have hN : NearP (newI n) := by
    refine ⟨List.length_replicate, fun x hx => ?_, rfl, fun t h => ?_, List.length_replicate, fun x hx => ?_⟩
    · have := List.eq_of_mem_replicate hx; omega
    · rw [ht] at h
      rw [List.mem_singleton.1 h]
      refine ⟨?_, ?_⟩
      · unfold tabOK
        rw [List.length_replicate, decide_eq_true ‹n ≤ 12›, Bool.true_and, List.all_eq_true]
        intro x hx
        rw [List.eq_of_mem_replicate hx]; decide
      · unfold onceB
        rw [hc]; exact decide_eq_true List.nodup_nil
    · rw [List.eq_of_mem_replicate hx]; decide
  refine imgOK_iff.2 ⟨hN, mend_of List.length_replicate List.length_replicate fun c hc => ?_⟩
  have hz : hasN (tabs (newI n)) c = 0 := by
    rw [hasN_zero, ht]
    intro t h
    rw [List.mem_singleton.1 h]
    intro hm
    have := List.eq_of_mem_replicate hm
    omega
  rw [hz]
  exact ⟨rep 24 c, fun _ => rep 24 c⟩
theorem newI_drawn (n : Nat) (h : n ≤ 12) : DrawnI (newI n) := ⟨newI_ok n h, by simp [newI]⟩
theorem putA_snaps (m : Img) (g : Nat) (c v : Int) : (putA m g c v).snaps = m.snaps := rfl
end Go.Proofs.YtenmfblmekilaaaGreat


namespace Go.Proofs.YtenmfblmekilaaaGreat
open Go
set_option maxRecDepth 100000
set_option maxHeartbeats 4000000
set_option linter.unusedSimpArgs false
set_option linter.unusedVariables false
/-- An answer that is an image by value, and a code. -/
def resE (m : Img) (c : Int) : Res := { val := .tuple [eImg m, .int .i64 c] }
end Go.Proofs.YtenmfblmekilaaaGreat


namespace Go.Proofs.YtenmfblmekilaaaGreat
open Go
set_option maxRecDepth 100000
set_option maxHeartbeats 4000000
set_option linter.unusedSimpArgs false
set_option linter.unusedVariables false
theorem delSnap_E (s : List Snp) (k : Nat) (h : s.length ≤ 1000000) (hk : k < s.length) : E CX 39 [.ref [0] 0 s.length, .int .i64 k, .int .i64 ((k : Int) + 1)] [([0], rSn s)] = some { val := .ref [0] 0 (s.length - 1), io := [⟨false, 47, 2, (s.eraseIdx k).map eSnp ++ [.agg [.str [], .nil]], some 3⟩] } := by
  refine E_ext rfl ?_
  have hX : CX.X 39 [.ref [0] 0 s.length, .int .i64 k, .int .i64 ((k : Int) + 1)] [([0], rSn s)] = delX 47 [.ref [0] 0 s.length, .int .i64 k, .int .i64 ((k : Int) + 1)] [([0], rSn s)] := by
    rw [show CX.X = X0 from rfl]
    delta X0
    rw [if_pos rfl]
    repeat rw [if_neg (by decide)]
  rw [hX]
  simp [delX, rSn, h, hk, map_erase]
theorem snapDelete_E (m : Img) (B : ImgB m) (x : Tx) : E CX 16 [eImg m, .str x] [] = some (if 65536 < x.length then resBad 2 else if imgOK m then resI (deleteA m x).1 (deleteA m x).2 else resBad 1) := by
  have e1 := imageOK_E m B
  have e2 := copiedImg_E m B
  have e3 := isLongTx_E x
  have e4 := first_E [(decide (65536 < x.length), 2), (!imgOK m, 1)] (by simp)
  simp only [anys] at e4
  rw [resV_if] at e2
  obtain ⟨r, t, s, d⟩ := m
  simp only [eImg] at e1 e2
  by_cases c0 : 65536 < x.length
  · simp only [c0, decide_true, firstP] at e3 e4
    refine E_fin Tryz.f16 _ an16 rfl rfl rfl Tryz.func16 rfl (by kernel_rfl) ?_
    simp at e4
    simp [go_sem, eImg, e1, e3, e4, c0, resBad]
  simp only [c0, decide_false, firstP] at e3 e4
  cases c1 : imgOK ⟨r, t, s, d⟩
  · rw [c1] at e1 e4
    refine E_fin Tryz.f16 _ an16 rfl rfl rfl Tryz.func16 rfl (by kernel_rfl) ?_
    simp at e4
    simp [go_sem, eImg, e1, e3, e4, c0, resBad]
  rw [c1] at e1 e4
  have P := imgP c1
  simp at e4
  rw [if_neg c0, if_pos rfl]
  have e6 := snap_E ⟨r, t, s, d⟩ x (by have := P.snaps; simp only at this ⊢; omega)
  simp only [eImg] at e6
  have hz : deleteA ⟨r, t, s, d⟩ x = if findA ⟨r, t, s, d⟩ x < 0 then (⟨r, t, s, d⟩, 5) else (mend ⟨r, t, s.eraseIdx (findA ⟨r, t, s, d⟩ x).toNat, d⟩, 0) := rfl
  rw [hz]
  have hsn := P.snaps
  simp only at hsn
  rcases findA_spec ⟨r, t, s, d⟩ x with ⟨h1, _⟩ | ⟨k, h1, h2, _⟩
  · rw [h1] at e6 ⊢
    rw [if_pos (by omega)]
    simp only
    by_cases hs : s = []
    · subst hs
      simp only [List.map_nil] at e1 e2 e3 e4 e6
      simp [oImgN, oRowsN, rI, rSn] at e2
      refine E_fin Tryz.f16 _ an16 rfl rfl rfl Tryz.func16 rfl (by kernel_rfl) ?_
      simp [go_sem, eImg, e1, e2, e3, e4, e6, resI, oImgN, oRowsN, rI, rSn]
    · simp only [if_neg hs, oImg, oRows, rI, rSn] at e2
      refine E_fin Tryz.f16 _ an16 rfl rfl rfl Tryz.func16 rfl (by kernel_rfl) ?_
      simp [go_sem, eImg, e1, e2, e3, e4, e6, resI, hs, oImg, oRows, rI, rSn]
  · rw [h1] at e6 ⊢
    rw [if_neg (by omega), Int.toNat_natCast]
    have e5 := mended_near (delete_near P k)
    simp only at h2
    have hel : (s.eraseIdx k).length = s.length - 1 := by rw [List.length_eraseIdx, if_pos h2]
    have ed := delSnap_E s k (by omega) h2
    rw [resV_if] at e5
    have hKs : (mend ⟨r, t, s.eraseIdx k, d⟩).snaps = s.eraseIdx k := rfl
    simp only [eImg] at e5
    generalize mend ⟨r, t, s.eraseIdx k, d⟩ = K at *
    generalize s.eraseIdx k = L at *
    have hs : s ≠ [] := by intro h; subst h; simp at h2
    have w1 : IntKind.i64.wrap ((k : Int) + 1) = (k : Int) + 1 := wrap_id (by omega)
    have tk : (L.map eSnp ++ [AV.agg [.str [], .nil]]).take (s.length - 1) = L.map eSnp := by
      rw [List.take_append_of_le_length (by simp; omega)]
      exact List.take_of_length_le (by simp; omega)
    simp only [if_neg hs, oImg, oRows, rI, rSn] at e2
    simp only [rSn] at ed
    by_cases hL : L = []
    · subst hL
      simp at hel
      simp [hKs, oImgN, oRowsN, rI, rSn] at e5
      refine E_fin Tryz.f16 _ an16 rfl rfl rfl Tryz.func16 rfl (by kernel_rfl) ?_
      simp at tk ed
      simp [go_sem, eImg, e1, e2, e3, e4, e5, e6, ed, w1, tk, show ¬ (k : Int) < 0 by omega, resI, hKs, oImgN, oRowsN, rI, rSn]
    · simp [hKs, hL, oImg, oRows, rI, rSn] at e5
      refine E_fin Tryz.f16 _ an16 rfl rfl rfl Tryz.func16 rfl (by kernel_rfl) ?_
      simp [go_sem, eImg, e1, e2, e3, e4, e5, e6, ed, w1, tk, hel, show ¬ (k : Int) < 0 by omega, resI, hKs, hL, shares_snps hL, eSnp, oImg, oRows, rI, rSn]
/-! Names as numbers. -/
def pkN : Tx → Int → Int
  | [], n => n
  | b :: r, n => pkN r (27 * n + ((b.toNat : Int) - 97) + 1)
def bnd : Nat → Int
  | 0 => 0
  | n + 1 => 27 * bnd n + 26
theorem bnd_le {n : Nat} (h : n ≤ 5) : bnd n ≤ 14348906 ∧ 0 ≤ bnd n := by
  rcases n with _ | _ | _ | _ | _ | _ | n
  · decide
  · decide
  · decide
  · decide
  · decide
  · decide
  · omega
theorem l10Text_E (m : Img) (ok : imgOK m = true) (x : Tx) (hx : x.length ≤ 6) : E CX 19 [eImg m, .str x] [] = some { val := .int .i64 0 } := by
  have e1 := sImageOK_E m (imgP ok).b
  rw [ok] at e1
  simp only [eImg] at e1
  refine E_fin Tryz.f19 _ an19 rfl rfl rfl Tryz.func19 rfl (by kernel_rfl) ?_
  simp [go_sem, eImg, e1, show ¬ (65536 : Int) < x.length by omega]
theorem sSnapCreate_E (m : Img) (ok : imgOK m = true) (x : Tx) (hx : x.length ≤ 6) : E CX 7 [eImg m, .str x] [] = some (resE (createA m x).1 (createA m x).2) := by
  have e1 := l10Text_E m ok x hx
  have e2 := sCreateX_E m (imgP ok) x (by omega)
  generalize createA m x = X at *
  obtain ⟨K, c⟩ := X
  simp only [eImg, resS, oImg, oRowp, rI, rSp] at e1 e2
  refine E_fin Tryz.f7 _ an7 rfl rfl rfl Tryz.func7 rfl (by kernel_rfl) ?_
  simp [go_sem, eImg, e1, e2, resE, show ¬ (65536 : Int) < x.length by omega]
theorem sSnapDelete_E (m : Img) (ok : imgOK m = true) (x : Tx) (hx : x.length ≤ 6) : E CX 15 [eImg m, .str x] [] = some (resE (deleteA m x).1 (deleteA m x).2) := by
  have e1 := l10Text_E m ok x hx
  have e2 := sDeleteX_E m (imgP ok) x
  generalize deleteA m x = X at *
  obtain ⟨K, c⟩ := X
  simp only [eImg, resS, oImg, oRowp, rI, rSp] at e1 e2
  refine E_fin Tryz.f15 _ an15 rfl rfl rfl Tryz.func15 rfl (by kernel_rfl) ?_
  simp [go_sem, eImg, e1, e2, resE, show ¬ (65536 : Int) < x.length by omega]
theorem sSnapRevert_E (m : Img) (ok : imgOK m = true) (x : Tx) (hx : x.length ≤ 6) : E CX 13 [eImg m, .str x] [] = some (resE (revertA m x).1 (revertA m x).2) := by
  have e1 := l10Text_E m ok x hx
  have e2 := sRevertX_E m (imgP ok) x
  generalize revertA m x = X at *
  obtain ⟨K, c⟩ := X
  simp only [eImg, resS, oImg, oRowp, rI, rSp] at e1 e2
  refine E_fin Tryz.f13 _ an13 rfl rfl rfl Tryz.func13 rfl (by kernel_rfl) ?_
  simp [go_sem, eImg, e1, e2, resE, show ¬ (65536 : Int) < x.length by omega]
end Go.Proofs.YtenmfblmekilaaaGreat


namespace Go.Proofs.YtenmfblmekilaaaGreat
open Go
set_option maxRecDepth 100000
set_option maxHeartbeats 2000000
set_option linter.unusedSimpArgs false
set_option linter.unusedVariables false
theorem l10TextX_E (m : Img) (B : ImgB m) (x : Tx) (hx : x.length ≤ 65536) : E CX 19 [eImg m, .str x] [] = some { val := .int .i64 (if imgOK m then 0 else 1) } := by
  have e1 := sImageOK_E m B
  cases c : imgOK m
  all_goals
    rw [c] at e1
    simp only [eImg] at e1
    refine E_fin Tryz.f19 _ an19 rfl rfl rfl Tryz.func19 rfl (by kernel_rfl) ?_
    simp [go_sem, eImg, e1, show ¬ (65536 : Int) < x.length by omega]
theorem sSnapCreateX_E (m : Img) (B : ImgB m) (x : Tx) : E CX 7 [eImg m, .str x] [] = some (if 65536 < x.length then resBad 2 else if imgOK m then resE (createA m x).1 (createA m x).2 else resBad 1) := by
  by_cases h : 65536 < x.length
  · rw [if_pos h]
    refine E_fin Tryz.f7 _ an7 rfl rfl rfl Tryz.func7 rfl (by kernel_rfl) ?_
    simp [go_sem, eImg, resBad, show (65536 : Int) < x.length by omega]
  rw [if_neg h]
  have e1 := l10TextX_E m B x (by omega)
  cases c : imgOK m
  · rw [c] at e1
    simp only [eImg] at e1
    refine E_fin Tryz.f7 _ an7 rfl rfl rfl Tryz.func7 rfl (by kernel_rfl) ?_
    simp [go_sem, eImg, e1, resBad, show ¬ (65536 : Int) < x.length by omega]
  rw [c] at e1
  have e2 := sCreateX_E m (imgP c) x (by omega)
  generalize createA m x = X at *
  obtain ⟨K, c⟩ := X
  simp only [eImg, resS, oImg, oRowp, rI, rSp] at e1 e2
  refine E_fin Tryz.f7 _ an7 rfl rfl rfl Tryz.func7 rfl (by kernel_rfl) ?_
  simp [go_sem, eImg, e1, e2, resE, show ¬ (65536 : Int) < x.length by omega]
theorem sSnapDeleteX_E (m : Img) (B : ImgB m) (x : Tx) : E CX 15 [eImg m, .str x] [] = some (if 65536 < x.length then resBad 2 else if imgOK m then resE (deleteA m x).1 (deleteA m x).2 else resBad 1) := by
  by_cases h : 65536 < x.length
  · rw [if_pos h]
    refine E_fin Tryz.f15 _ an15 rfl rfl rfl Tryz.func15 rfl (by kernel_rfl) ?_
    simp [go_sem, eImg, resBad, show (65536 : Int) < x.length by omega]
  rw [if_neg h]
  have e1 := l10TextX_E m B x (by omega)
  cases c : imgOK m
  · rw [c] at e1
    simp only [eImg] at e1
    refine E_fin Tryz.f15 _ an15 rfl rfl rfl Tryz.func15 rfl (by kernel_rfl) ?_
    simp [go_sem, eImg, e1, resBad, show ¬ (65536 : Int) < x.length by omega]
  rw [c] at e1
  have e2 := sDeleteX_E m (imgP c) x
  generalize deleteA m x = X at *
  obtain ⟨K, c⟩ := X
  simp only [eImg, resS, oImg, oRowp, rI, rSp] at e1 e2
  refine E_fin Tryz.f15 _ an15 rfl rfl rfl Tryz.func15 rfl (by kernel_rfl) ?_
  simp [go_sem, eImg, e1, e2, resE, show ¬ (65536 : Int) < x.length by omega]
theorem sSnapRevertX_E (m : Img) (B : ImgB m) (x : Tx) : E CX 13 [eImg m, .str x] [] = some (if 65536 < x.length then resBad 2 else if imgOK m then resE (revertA m x).1 (revertA m x).2 else resBad 1) := by
  by_cases h : 65536 < x.length
  · rw [if_pos h]
    refine E_fin Tryz.f13 _ an13 rfl rfl rfl Tryz.func13 rfl (by kernel_rfl) ?_
    simp [go_sem, eImg, resBad, show (65536 : Int) < x.length by omega]
  rw [if_neg h]
  have e1 := l10TextX_E m B x (by omega)
  cases c : imgOK m
  · rw [c] at e1
    simp only [eImg] at e1
    refine E_fin Tryz.f13 _ an13 rfl rfl rfl Tryz.func13 rfl (by kernel_rfl) ?_
    simp [go_sem, eImg, e1, resBad, show ¬ (65536 : Int) < x.length by omega]
  rw [c] at e1
  have e2 := sRevertX_E m (imgP c) x
  generalize revertA m x = X at *
  obtain ⟨K, c⟩ := X
  simp only [eImg, resS, oImg, oRowp, rI, rSp] at e1 e2
  refine E_fin Tryz.f13 _ an13 rfl rfl rfl Tryz.func13 rfl (by kernel_rfl) ?_
  simp [go_sem, eImg, e1, e2, resE, show ¬ (65536 : Int) < x.length by omega]
end Go.Proofs.YtenmfblmekilaaaGreat


namespace Go.Proofs.YtenmfblmekilaaaGreat
open Go
set_option maxRecDepth 100000
set_option maxHeartbeats 4000000
set_option linter.unusedSimpArgs false
set_option linter.unusedVariables false
theorem snapRevertLaw_bad (m : Img) (x : Tx) (hx : ¬ (1048576 : Int) < x.length) (c : Int) (B : ImgB m) (h1 : ¬ szI 1048576 m < 0) (e1 : E CX 6 [eImg m, .int .i64 1048576] [] = some { val := .int .i64 (szI 1048576 m) }) (hb : szMk m ≤ 1048576)
    (e5 : E CX 13 [eImg m, .str x] [] = some (resBad c)) (e6 : E CX 14 [eImg m, .str x] [] = some (resBad c)) : E CX 4 [eImg m, .str x] [] = some { val := .bool true } := by
  have e3 := toImage_S m B
  have e8 := eqImage_S m B
  have e10 := markImage_S m (by omega) B.snaps
  have e7 := eqImage_S ⟨[], [], [], []⟩ ⟨by simp, by simp, by simp, by simp, by simp, by simp⟩
  have e12 := markImage_bad
  have e13 := heldImage_E ⟨[], [], [], []⟩ (by simp [szMk, szSn, szTN])
  have n2 : ¬ 1 + szMk m < 0 := by unfold szMk; omega
  generalize subS m.snaps = sb at e3 e10
  simp only [eImg, oImg, rI, rSo, resBad, mkImg, mkSn, upI, szMk, szSn, szTN, mkTN, List.map_nil, List.length_nil, List.range_zero] at e1 e3 e5 e6 e7 e8 e10 e13 n2
  simp at e13
  refine E_fin Tryz.f4 _ an4 rfl rfl rfl Tryz.func4 rfl (by kernel_rfl) ?_
  simp [go_sem, eImg, e1, e3, e5, e6, e7, e8, e10, e12, e13, h1, hx, n2]
theorem snapRevertLaw_none (m : Img) (x : Tx) (hx : ¬ (1048576 : Int) < x.length) (r t d : List Int) (c : Int) (B : ImgB m) (h1 : ¬ szI 1048576 m < 0) (e1 : E CX 6 [eImg m, .int .i64 1048576] [] = some { val := .int .i64 (szI 1048576 m) }) (hb : szMk m ≤ 1048576) (BK : ImgB ⟨r, t, [], d⟩) (hK : 1 + szMk ⟨r, t, [], d⟩ ≤ 1099511627776)
    (e5 : E CX 13 [eImg m, .str x] [] = some (resE ⟨r, t, [], d⟩ c)) (e6 : E CX 14 [eImg m, .str x] [] = some (resI ⟨r, t, [], d⟩ c)) : E CX 4 [eImg m, .str x] [] = some { val := .bool true } := by
  have e3 := toImage_S m B
  have e8 := eqImage_S m B
  have e10 := markImage_S m (by omega) B.snaps
  have e7 := eqImage_S _ BK
  have e12 := markImage_none r t d hK
  have e13 := heldImage_E _ hK
  have n2 : ¬ 1 + szMk m < 0 := by unfold szMk; omega
  have n3 : ¬ 1 + szMk ⟨r, t, [], d⟩ < 0 := by unfold szMk; omega
  generalize subS m.snaps = sb at e3 e10
  generalize szMk m = zm at *
  generalize szMk ⟨r, t, [], d⟩ = zk at *
  simp only [eImg, oImg, rI, rSo, resE, resI, if_true, oImgN, oRowsN, mkImg, mkSn, mkTN, List.map_nil] at e1 e3 e5 e6 e7 e8 e10 e12 e13
  refine E_fin Tryz.f4 _ an4 rfl rfl rfl Tryz.func4 rfl (by kernel_rfl) ?_
  simp [go_sem, eImg, e1, e3, e5, e6, e7, e8, e10, e12, e13, h1, hx, n2, n3, upI_length]
theorem snapRevertLaw_some (m K : Img) (x : Tx) (hx : ¬ (1048576 : Int) < x.length) (c : Int) (B : ImgB m) (h1 : ¬ szI 1048576 m < 0) (e1 : E CX 6 [eImg m, .int .i64 1048576] [] = some { val := .int .i64 (szI 1048576 m) }) (hb : szMk m ≤ 1048576) (BK : ImgB K) (hK : 1 + szMk K ≤ 1099511627776) (hs : K.snaps ≠ [])
    (e5 : E CX 13 [eImg m, .str x] [] = some (resE K c)) (e6 : E CX 14 [eImg m, .str x] [] = some (resI K c)) : E CX 4 [eImg m, .str x] [] = some { val := .bool true } := by
  have e3 := toImage_S m B
  have e8 := eqImage_S m B
  have e10 := markImage_S m (by omega) B.snaps
  have e7 := eqImage_S _ BK
  have e12 := markImage_E K hK BK.snaps
  have e13 := heldImage_E _ hK
  have n2 : ¬ 1 + szMk m < 0 := by unfold szMk; omega
  have n3 : ¬ 1 + szMk K < 0 := by unfold szMk; omega
  have l1 : (mkImg K).refs.length = K.refs.length := by simp [mkImg, upI_length]
  have l2 : (mkImg K).tab.length = K.tab.length := by simp [mkImg, upI_length]
  have l3 : (mkImg K).snaps.length = K.snaps.length := by simp [mkImg, mkSn_length]
  have l4 : (mkImg K).data.length = K.data.length := by simp [mkImg, upI_length]
  have t1 : List.take K.refs.length ((mkImg K).refs.map (AV.int .i64)) = (mkImg K).refs.map (AV.int .i64) := List.take_of_length_le (by simp [l1])
  have t2 : List.take K.tab.length ((mkImg K).tab.map (AV.int .i64)) = (mkImg K).tab.map (AV.int .i64) := List.take_of_length_le (by simp [l2])
  have t3 : List.take K.snaps.length ((mkImg K).snaps.map eSnp) = (mkImg K).snaps.map eSnp := List.take_of_length_le (by simp [l3])
  have t4 : List.take K.data.length ((mkImg K).data.map (AV.int .i64)) = (mkImg K).data.map (AV.int .i64) := List.take_of_length_le (by simp [l4])
  generalize subS m.snaps = sb at e3 e10
  generalize szMk m = zm at *
  generalize szMk K = zk at *
  rw [if_neg hs, if_neg hs] at e12
  unfold resI at e6
  rw [if_neg hs] at e6
  generalize mkImg m = MM at *
  generalize mkImg K = MK at *
  simp only [eImg, oImg, rI, rSo, rSn, oRows, resE] at e1 e3 e5 e6 e7 e8 e10 e12 e13
  refine E_fin Tryz.f4 _ an4 rfl rfl rfl Tryz.func4 rfl (by kernel_rfl) ?_
  simp [go_sem, eImg, e1, e3, e5, e6, e7, e8, e10, e12, e13, h1, hx, n2, n3, l1, l2, l3, l4, t1, t2, t3, t4, eSnp]
theorem snapRevertLaw_E (m : Img) (x : Tx) (ht : x.length ≤ top) (F : FitI m) : E CX 4 [eImg m, .str x] [] = some { val := .bool true } := by
  by_cases hx : (1048576 : Int) < x.length
  · refine E_fin Tryz.f4 _ an4 rfl rfl rfl Tryz.func4 rfl (by kernel_rfl) ?_
    simp [go_sem, eImg, hx]
  have e1 := szImage_E m 1048576 (by omega) F
  by_cases h1 : szI 1048576 m < 0
  · simp only [eImg] at e1
    refine E_fin Tryz.f4 _ an4 rfl rfl rfl Tryz.func4 rfl (by kernel_rfl) ?_
    simp [go_sem, eImg, e1, h1, hx]
  obtain ⟨B, hb⟩ := szI_bound (by omega) F (show 0 ≤ szI 1048576 m by omega)
  have e5 := sSnapRevertX_E m B x
  have e6 := snapRevert_E m B x
  by_cases hl : 65536 < x.length
  · rw [if_pos hl] at e5 e6
    exact snapRevertLaw_bad m x hx _ B h1 e1 hb e5 e6
  rw [if_neg hl] at e5 e6
  cases c : imgOK m
  · rw [c] at e5 e6
    exact snapRevertLaw_bad m x hx _ B h1 e1 hb e5 e6
  · rw [c] at e5 e6
    simp only [if_true] at e5 e6
    have P := (imgP (revertA_ok c x)).toNearP
    have hK := P.szMk
    generalize revertA m x = X at *
    obtain ⟨⟨r, t, s, d⟩, cd⟩ := X
    simp only at e5 e6 P hK
    by_cases hs : s = []
    · subst hs
      exact snapRevertLaw_none m x hx r t d cd B h1 e1 hb P.b (by omega) e5 e6
    · exact snapRevertLaw_some m _ x hx cd B h1 e1 hb P.b (by omega) hs e5 e6
end Go.Proofs.YtenmfblmekilaaaGreat


namespace Go.Proofs.YtenmfblmekilaaaGreat
open Go
set_option maxRecDepth 100000
theorem told_ints : ∀ bs, Typed Tryz.prog 22 bs → ∃ x : List Int, mkVal (tagg Tryz.prog 22) bs = .sl 1 (x.map (.int .i64)) ∧ x.length ≤ top := by
  intro bs h
  obtain ⟨x, e, w, q⟩ := typed_list Tryz.underlying22 told_int h
  rw [cells_int] at e
  cases e
  exact ⟨x, by rw [show tagg Tryz.prog 22 = false by kernel_rfl]; rfl, w⟩
theorem told_Snap : ∀ bs, Typed Tryz.prog 53 bs → ∃ x : Snp, mkVal (tagg Tryz.prog 53) bs = eSnp x ∧ x.name.length ≤ top ∧ x.tab.length ≤ top := by
  intro bs h
  obtain ⟨hl, hf⟩ := typed_strct Tryz.underlying53 h
  rw [show Tryz.prog.cellsOf 53 = 2 by kernel_rfl] at hl
  obtain ⟨a, b, rfl⟩ := len2 hl
  simp [cells_str, show Tryz.prog.cellsOf 22 = 1 by kernel_rfl] at hf
  obtain ⟨h0, h1⟩ := hf
  obtain ⟨x0, e0, w0⟩ := typed_str Tryz.underlying9 h0
  obtain ⟨x1, e1, w1⟩ := told_ints _ h1
  cases e0
  rw [show tagg Tryz.prog 22 = false by kernel_rfl] at e1
  simp [mkVal] at e1
  subst e1
  exact ⟨⟨x0, x1⟩, by rw [show tagg Tryz.prog 53 = true by kernel_rfl]; rfl, w0, w1⟩
theorem told_Image : ∀ bs, Typed Tryz.prog 25 bs → ∃ x : Img, mkVal (tagg Tryz.prog 25) bs = eImg x ∧ FitI x := by
  intro bs h
  obtain ⟨hl, hf⟩ := typed_strct Tryz.underlying25 h
  rw [show Tryz.prog.cellsOf 25 = 4 by kernel_rfl] at hl
  obtain ⟨a, b, c, d, rfl⟩ := len4 hl
  simp [show Tryz.prog.cellsOf 22 = 1 by kernel_rfl, show Tryz.prog.cellsOf 23 = 1 by kernel_rfl] at hf
  obtain ⟨h0, h1, h2, h3⟩ := hf
  obtain ⟨x0, e0, w0⟩ := told_ints _ h0
  obtain ⟨x1, e1, w1⟩ := told_ints _ h1
  obtain ⟨x2, e2, w2, q2⟩ := typed_list Tryz.underlying23 told_Snap h2
  obtain ⟨x3, e3, w3⟩ := told_ints _ h3
  rw [show tagg Tryz.prog 22 = false by kernel_rfl] at e0 e1 e3
  simp [mkVal] at e0 e1 e3
  rw [show Tryz.prog.cellsOf 53 = 2 by kernel_rfl] at e2
  cases e2
  subst e0; subst e1; subst e3
  exact ⟨⟨x0, x1, x2, x3⟩, by rw [show tagg Tryz.prog 25 = true by kernel_rfl]; rfl, ⟨w0, w1, w2, q2, w3⟩⟩
end Go.Proofs.YtenmfblmekilaaaGreat

