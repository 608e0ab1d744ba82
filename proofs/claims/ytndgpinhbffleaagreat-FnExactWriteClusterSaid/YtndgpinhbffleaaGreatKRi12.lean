/- A reading of the loaded code over plain data, its soundness, and what functions answer by it (part 12; joined by program). No condition. -/
import Derived.Test.YtndgpinhbffleaaGreatKRi11
set_option linter.all false
namespace Go.Proofs.YtndgpinhbffleaaGreat
open Go
set_option maxRecDepth 100000
set_option maxHeartbeats 2000000
set_option linter.unusedSimpArgs false
set_option linter.unusedVariables false
theorem szS_sum (l : List Snp) : ∀ left : Int, 0 ≤ szS wSnp left l → szSn l + szS wSnp left l ≤ left + l.length := by
  induction l with
  | nil => intro left h; simp [szS, szSn, szTN] at h ⊢
  | cons x l ih =>
    intro left h
    unfold szS at h ⊢
    split at h
    · omega
    · rename_i hx
      rw [if_neg hx]
      have := ih _ h
      rw [szSn_cons]
      simp only [List.length_cons]
      unfold wSnp at this h ⊢
      push_cast at *
      omega
theorem szI_bound {m : Img} {left : Int} (hl : 0 ≤ left ∧ left ≤ 1048576) (F : FitI m) (h : 0 ≤ szI left m) : ImgB m ∧ szMk m ≤ left := by
  unfold szI at h
  split at h
  · omega
  split at h
  · omega
  split at h
  · omega
  split at h
  · omega
  rename_i h1 h2 h3 h4
  obtain ⟨b1, b2, b3⟩ := szL_bound wSnp m.snaps _ (by omega) (show 0 ≤ szL wSnp (left - m.refs.length - m.tab.length) m.snaps by omega)
  have hs : szSn m.snaps + szL wSnp (left - m.refs.length - m.tab.length) m.snaps ≤ left - m.refs.length - m.tab.length := by
    unfold szL at h3 ⊢
    by_cases hl0 : left - m.refs.length - m.tab.length - m.snaps.length < 0
    · simp [hl0] at h3
    · simp only [hl0, if_false] at h3 ⊢
      have := szS_sum m.snaps _ (show 0 ≤ szS wSnp (left - m.refs.length - m.tab.length - m.snaps.length) m.snaps by omega)
      omega
  refine ⟨⟨by omega, by omega, by omega, by omega, fun x hx => ?_, fun x hx => ?_⟩, ?_⟩
  · have := b3 x hx; unfold wSnp at this; omega
  · have := b3 x hx; unfold wSnp at this; omega
  · unfold szMk; omega
theorem szSn_le (s : List Snp) (h : ∀ x ∈ s, x.tab.length ≤ 12) : szSn s ≤ 13 * s.length := by
  induction s with
  | nil => exact Nat.le_refl _
  | cons x s ih =>
    have h1 := h x (by simp)
    have h2 := ih fun y hy => h y (by simp [hy])
    rw [szSn_cons, List.length_cons]; omega
theorem NearP.szMk {K : Img} (P : NearP K) : 1 + Go.Proofs.YtndgpinhbffleaaGreat.szMk K ≤ 1000 := by
  have B := P.b
  have h1 := P.refs
  have h2 := P.data
  have h3 : K.tab.length ≤ 12 := tabOK_len (P.tabs K.tab (List.mem_cons_self ..)).1
  have h4 : K.snaps.length ≤ 3 := by
    have := P.names
    simp [snamesOK] at this; omega
  have h5 := szSn_le K.snaps fun x hx => tabOK_len (P.tabs x.tab (List.mem_cons_of_mem _ (List.mem_map.2 ⟨x, hx, rfl⟩))).1
  unfold Go.Proofs.YtndgpinhbffleaaGreat.szMk; omega
/-- The row of snapshots of a copy. -/
def rSo (s : List Snp) (u : Option TypeId) : Blk := ⟨false, 94, 2, s.map eSnp, u⟩
def subS (s : List Snp) : Option TypeId := if s = [] then none else some 3
theorem toImage_S (m : Img) (B : ImgB m) : E CX 53 [eImg m] [] = some { val := oImg m, own := [rI m.refs, rI m.tab, rSo m.snaps (subS m.snaps), rI m.data] } := by
  rw [toImage_E m B.refs B.tab B.snaps B.tabs B.data]
  by_cases hs : m.snaps = [] <;> simp [hs, rSo, subS, rSp, rSn]
theorem markImage_S (m : Img) (h : 1 + szMk m ≤ 1099511627776) (hl : m.snaps.length ≤ 1073741824) :
    E CX 55 [.agg [.ref [0, 0] 0 m.refs.length, .ref [0, 1] 0 m.tab.length, .ref [0, 2] 0 m.snaps.length, .ref [0, 3] 0 m.data.length], .int .i64 1] [([0, 0], rI m.refs), ([0, 1], rI m.tab), ([0, 2], rSo m.snaps (subS m.snaps)), ([0, 3], rI m.data)] =
      some { val := .int .i64 (1 + szMk m), io := [rI (mkImg m).refs, rI (mkImg m).tab, rSo (mkImg m).snaps (subS m.snaps), rI (mkImg m).data] } := by
  have := markImage_E m h hl
  by_cases hs : m.snaps = []
  · simp only [hs, if_true] at this
    simpa [hs, rSo, subS, rSp, mkImg, mkSn, mkTN] using this
  · simp only [hs, if_false] at this
    simpa [hs, rSo, subS, rSn] using this
theorem eqImage_S (a : Img) (B : ImgB a) : E CX 54 [eImg a, eImg a] [] = some { val := .bool true } := by
  rw [eqImage_E a a B.refs B.tab B.snaps B.tabs B.data]; simp
end Go.Proofs.YtndgpinhbffleaaGreat


namespace Go.Proofs.YtndgpinhbffleaaGreat
open Go
set_option maxRecDepth 100000
set_option maxHeartbeats 2000000
set_option linter.unusedSimpArgs false
set_option linter.unusedVariables false
theorem repair_E (m : Img) (B : ImgB m) : E CX 15 [eImg m] [] = some (if nearOK m then resI (mend m) 0 else resBad 1) := by
  have e1 := nearlyOK_E m B
  cases c1 : nearOK m
  · rw [c1] at e1
    simp only [eImg] at e1
    refine E_fin Tryz.f15 _ an15 rfl rfl rfl Tryz.func15 rfl (by kernel_rfl) ?_
    simp [go_sem, eImg, e1, resBad]
  · rw [c1] at e1
    have e2 := mended_near (nearOK_iff.1 c1)
    rw [resV_if] at e2
    have hKs : (mend m).snaps = m.snaps := rfl
    generalize mend m = K at *
    simp only [eImg] at e1 e2
    rw [hKs] at e2
    refine E_fin Tryz.f15 _ an15 rfl rfl rfl Tryz.func15 rfl (by kernel_rfl) ?_
    by_cases hs : m.snaps = []
    · simp [hs, hKs, oImgN, oRowsN, rI, rSn] at e1 e2
      simp [go_sem, eImg, hs, hKs, e1, e2, resI, oImgN, oRowsN, rI, rSn]
    · simp [hs, hKs, oImg, oRows, rI, rSn] at e2
      simp [go_sem, eImg, hs, hKs, e1, e2, resI, oImg, oRows, rI, rSn]
theorem wrongRefs1_E (a b : Int) : E CX 66 [.int .i64 a, .int .i64 b] [] = some { val := .bool (!decide (a = b)) } := by
  refine E_fin Tryz.f66 _ an66 rfl rfl rfl Tryz.func66 rfl (by kernel_rfl) ?_
  by_cases c : a = b <;> simp [go_sem, c]
theorem wrong_E (m : Img) (P : NearP m) (hr : m.refs = cnt (tabs m)) : E CX 65 [eImg m, .fn 66 []] [] = some { val := .tuple [.ref [0, 0, 0, 0] 0 0, .int .i64 0], own := [⟨false, 3, 1, [], none⟩] } := by
  have e1 := nearlyOK_E m P.b
  rw [nearOK_iff.2 P] at e1
  have e2 := counted_E m (by have := P.snaps; omega) (fun t ht => (P.tabs t ht).1)
  have h24 : (cnt (tabs m)).length = 24 := cnt_len _
  rw [← hr] at e2 h24
  obtain ⟨r, t, s, d⟩ := m
  simp only [eImg] at e1 e2 h24
  simp only at hr
  refine E_fin Tryz.f65 _ an65 rfl rfl rfl Tryz.func65 rfl (by kernel_rfl) ?_
  simp [go_sem, eImg, e1, e2, h24]
  refine loop_for (fun X => fin CX _ _ X = _) r (fun n (a : Unit) => True) (fun n a => ⟨SS [(1, .fn 66 []), (2, .ptr [2] 0 0), (6, .ref [12] 0 0), (14, .sl 1 (r.map (.int .i64))), (15, .int .i64 24), (16, .int .i64 n)], HS [([2], ⟨true, 26, 4, [eImg ⟨r, t, s, d⟩], none⟩), ([12], ⟨false, 3, 1, [], none⟩)]⟩)
    (fun q n a => (.exit 0, ⟨SS [(6, .ref [12] 0 0)], HS [([12], ⟨false, 3, 1, [], none⟩)]⟩)) () trivial ?_ ?_ ?_ ?_ ?_
  · simp [go_sem, eImg]
  · intro R n a x q hn hx hd hI hR
    have hx := hx hn
    have := hR () trivial rfl
    have e3 := wrongRefs1_E x x
    simp at e3
    simp [go_sem, eImg] at this
    simp [go_sem, eImg, hn, hx, e3, show (n : Int) < 24 by omega, wrap_id (n := (n : Int) + 1) (by omega)]
    exact this
  · intro a hI; simp [go_sem, h24, eImg]
  · intro _; simp
  · simp [go_sem]
theorem wrongRefs_E (m : Img) (P : NearP m) (hr : m.refs = cnt (tabs m)) : E CX 18 [eImg m] [] = some { val := .tuple [.sl 1 [], .int .i64 0] } := by
  have e1 := wrong_E m P hr
  simp only [eImg] at e1
  refine E_fin Tryz.f18 _ an18 rfl rfl rfl Tryz.func18 rfl (by kernel_rfl) ?_
  simp [go_sem, eImg, e1]
def readA (m : Img) (g : Int) : Int × Int := if imgOK m then (if inn g 0 ((m.tab.length : Int) - 1) then (valI m.data (m.tab.getD g.toNat 0), 0) else (0, 4)) else (0, 1)
theorem readCluster_E (m : Img) (B : ImgB m) (g : Int) : E CX 19 [eImg m, .int .i64 g] [] = some { val := .tuple [.int .i64 (readA m g).1, .int .i64 (readA m g).2] } := by
  have e1 := imageOK_E m B
  have e2 := isGuest_E m g B.tab
  have e3 := first_E [(!imgOK m, 1), (!inn g 0 ((m.tab.length : Int) - 1), 4)] (by simp)
  simp only [anys] at e3
  unfold readA
  cases c1 : imgOK m
  · simp only [c1, eImg, firstP] at e1 e2 e3
    refine E_fin Tryz.f19 _ an19 rfl rfl rfl Tryz.func19 rfl (by kernel_rfl) ?_
    simp at e3
    simp [go_sem, eImg, e1, e2, e3]
  · cases c2 : inn g 0 ((m.tab.length : Int) - 1)
    · simp only [c1, c2, eImg, firstP] at e1 e2 e3
      refine E_fin Tryz.f19 _ an19 rfl rfl rfl Tryz.func19 rfl (by kernel_rfl) ?_
      simp at e3
      simp [go_sem, eImg, e1, e2, e3]
    · obtain ⟨hg, hg0⟩ := inn_lt c2
      obtain ⟨n, rfl⟩ : ∃ n : Nat, g = n := ⟨g.toNat, by omega⟩
      rw [Int.toNat_natCast] at hg
      have P := imgP c1
      have e4 := value_E m m.tab n hg P.tab.1 P.data
      simp only [c1, c2, eImg, firstP] at e1 e2 e3 e4
      refine E_fin Tryz.f19 _ an19 rfl rfl rfl Tryz.func19 rfl (by kernel_rfl) ?_
      simp at e3 e4
      simp [go_sem, eImg, e1, e2, e3, e4]
theorem snapCreate_E (m : Img) (B : ImgB m) (x : Tx) : E CX 23 [eImg m, .str x] [] = some (if 65536 < x.length then resBad 2 else if imgOK m then resI (createA m x).1 (createA m x).2 else resBad 1) := by
  have e1 := imageOK_E m B
  have e2 := copiedImg_E m B
  have e3 := isLongTx_E x
  have e4 := first_E [(decide (65536 < x.length), 2), (!imgOK m, 1)] (by simp)
  simp only [anys] at e4
  rw [resV_if] at e2
  obtain ⟨r, t, s, d⟩ := m
  simp only [eImg] at e1 e2
  by_cases c0 : 65536 < x.length
  · simp only [c0, decide_true, firstP] at e3 e4
    refine E_fin Tryz.f23 _ an23 rfl rfl rfl Tryz.func23 rfl (by kernel_rfl) ?_
    simp at e4
    simp [go_sem, eImg, e1, e3, e4, c0, resBad]
  simp only [c0, decide_false, firstP] at e3 e4
  cases c1 : imgOK ⟨r, t, s, d⟩
  · rw [c1] at e1 e4
    refine E_fin Tryz.f23 _ an23 rfl rfl rfl Tryz.func23 rfl (by kernel_rfl) ?_
    simp at e4
    simp [go_sem, eImg, e1, e3, e4, c0, resBad]
  rw [c1] at e1 e4
  have P := imgP c1
  simp at e4
  rw [if_neg c0, if_pos rfl]
  have e6 := snap_E ⟨r, t, s, d⟩ x (by have := P.snaps; simp only at this ⊢; omega)
  simp only [eImg] at e6
  have e7 := snapNameOK_E x (by omega)
  have e8 := first_E [(!snameOK x, 12), (decide (0 ≤ findA ⟨r, t, s, d⟩ x), 8), (decide (s.length = 3), 6)] (by simp)
  simp only [anys, firstP] at e8
  have hz : createA ⟨r, t, s, d⟩ x = if snameOK x = false then (⟨r, t, s, d⟩, 12) else if 0 ≤ findA ⟨r, t, s, d⟩ x then (⟨r, t, s, d⟩, 8) else if s.length = 3 then (⟨r, t, s, d⟩, 6) else (mend ⟨r, t, s ++ [⟨x, t⟩], d⟩, 0) := rfl
  rw [hz]
  have near := fun h1 h2 h3 => create_near P (s := x) h1 h2 h3
  have hsn := P.snaps
  have ht12 := tabOK_len P.tab.1
  simp only at hsn ht12
  generalize findA ⟨r, t, s, d⟩ x = k at *
  have h3i : decide ((s.length : Int) = 3) = decide (s.length = 3) := by
    by_cases h : s.length = 3 <;> simp [h] <;> omega
  have h3b : ((s.length : Int) == 3) = decide (s.length = 3) := by
    have := beq_nat s.length 3; simpa using this
  cases c2 : snameOK x
  · rw [c2] at e7 e8
    rw [if_pos rfl]
    simp at e8
    simp only
    by_cases hs : s = []
    · subst hs
      simp only [List.map_nil] at e1 e2 e3 e4 e6 e7 e8
      simp [oImgN, oRowsN, rI, rSn] at e2
      simp at e8
      refine E_fin Tryz.f23 _ an23 rfl rfl rfl Tryz.func23 rfl (by kernel_rfl) ?_
      simp [go_sem, eImg, e1, e2, e3, e4, e6, e7, e8, resI, oImgN, oRowsN, rI, rSn, h3i, h3b]
    · simp only [if_neg hs, oImg, oRows, rI, rSn] at e2
      refine E_fin Tryz.f23 _ an23 rfl rfl rfl Tryz.func23 rfl (by kernel_rfl) ?_
      simp [go_sem, eImg, e1, e2, e3, e4, e6, e7, e8, resI, hs, oImg, oRows, rI, rSn, h3i, h3b]
  rw [c2] at e7 e8
  rw [if_neg (by simp)]
  by_cases c3 : 0 ≤ k
  · rw [if_pos c3]
    simp [c3] at e8
    simp only
    by_cases hs : s = []
    · subst hs
      simp only [List.map_nil] at e1 e2 e3 e4 e6 e7 e8
      simp [oImgN, oRowsN, rI, rSn] at e2
      simp at e8
      refine E_fin Tryz.f23 _ an23 rfl rfl rfl Tryz.func23 rfl (by kernel_rfl) ?_
      simp [go_sem, eImg, e1, e2, e3, e4, e6, e7, e8, resI, oImgN, oRowsN, rI, rSn, h3i, h3b, c3]
    · simp only [if_neg hs, oImg, oRows, rI, rSn] at e2
      refine E_fin Tryz.f23 _ an23 rfl rfl rfl Tryz.func23 rfl (by kernel_rfl) ?_
      simp [go_sem, eImg, e1, e2, e3, e4, e6, e7, e8, resI, hs, oImg, oRows, rI, rSn, h3i, h3b, c3]
  rw [if_neg c3]
  by_cases c4 : s.length = 3
  · rw [if_pos c4]
    simp [c3, c4] at e8
    simp only
    have hs : s ≠ [] := by intro h; rw [h] at c4; simp at c4
    simp only [if_neg hs, oImg, oRows, rI, rSn] at e2
    refine E_fin Tryz.f23 _ an23 rfl rfl rfl Tryz.func23 rfl (by kernel_rfl) ?_
    simp [go_sem, eImg, e1, e2, e3, e4, e6, e7, e8, c3, c4, resI, hs, oImg, oRows, rI, rSn]
  rw [if_neg c4]
  simp [c3, c4] at e8
  simp only
  have c4' : ¬ (s.length : Int) = 3 := by omega
  have e5 := mended_near (near c2 (by omega) c4)
  have e9 := cloneInt_E t (by omega)
  rw [resV_if] at e5
  have hKs : (mend ⟨r, t, s ++ [⟨x, t⟩], d⟩).snaps = s ++ [⟨x, t⟩] := rfl
  have hKl : (mend ⟨r, t, s ++ [⟨x, t⟩], d⟩).snaps.length = s.length + 1 := by rw [hKs]; simp
  simp only [eImg] at e5
  generalize mend ⟨r, t, s ++ [⟨x, t⟩], d⟩ = K at *
  simp only [List.map_append, List.map_cons, List.map_nil] at e5
  by_cases hs : s = []
  · subst hs
    simp only [List.map_nil] at e1 e2 e6 e5
    simp [oImgN, oRowsN, rI, rSn] at e2
    simp [hKs, oImg, oRows, rI, rSn, eSnp] at e5
    refine E_fin Tryz.f23 _ an23 rfl rfl rfl Tryz.func23 rfl (by kernel_rfl) ?_
    simp [go_sem, eImg, e1, e2, e3, e4, e5, e6, e7, e8, e9, c3, AV.sharesL, AV.shares, eSnp, resI, hKs, oImg, oRows, oImgN, oRowsN, rI, rSn]
  · simp only [if_neg hs, oImg, oRows, rI, rSn] at e2
    simp [hKs, hs, oImg, oRows, rI, rSn, eSnp] at e5
    have hsh : AV.sharesL (List.map eSnp s ++ [AV.agg [AV.str x, AV.sl 1 (List.map (AV.int IntKind.i64) t)]]) = true := by
      have := shares_snps (s := s ++ [⟨x, t⟩]) (by simp)
      simpa [eSnp] using this
    refine E_fin Tryz.f23 _ an23 rfl rfl rfl Tryz.func23 rfl (by kernel_rfl) ?_
    simp [go_sem, eImg, e1, e2, e3, e4, e5, e6, e7, e8, e9, c3, c4, c4', h3b, hsh, eSnp, resI, hKs, hs, shares_snps hs, eSnp, oImg, oRows, rI, rSn, show s.length + 1 ≤ 1073741824 by omega]
theorem snapRevert_E (m : Img) (B : ImgB m) (x : Tx) : E CX 27 [eImg m, .str x] [] = some (if 65536 < x.length then resBad 2 else if imgOK m then resI (revertA m x).1 (revertA m x).2 else resBad 1) := by
  have e1 := imageOK_E m B
  have e2 := copiedImg_E m B
  have e3 := isLongTx_E x
  have e4 := first_E [(decide (65536 < x.length), 2), (!imgOK m, 1)] (by simp)
  simp only [anys] at e4
  rw [resV_if] at e2
  obtain ⟨r, t, s, d⟩ := m
  simp only [eImg] at e1 e2
  by_cases c0 : 65536 < x.length
  · simp only [c0, decide_true, firstP] at e3 e4
    refine E_fin Tryz.f27 _ an27 rfl rfl rfl Tryz.func27 rfl (by kernel_rfl) ?_
    simp at e4
    simp [go_sem, eImg, e1, e3, e4, c0, resBad]
  simp only [c0, decide_false, firstP] at e3 e4
  cases c1 : imgOK ⟨r, t, s, d⟩
  · rw [c1] at e1 e4
    refine E_fin Tryz.f27 _ an27 rfl rfl rfl Tryz.func27 rfl (by kernel_rfl) ?_
    simp at e4
    simp [go_sem, eImg, e1, e3, e4, c0, resBad]
  rw [c1] at e1 e4
  have P := imgP c1
  simp at e4
  rw [if_neg c0, if_pos rfl]
  have e6 := snap_E ⟨r, t, s, d⟩ x (by have := P.snaps; simp only at this ⊢; omega)
  simp only [eImg] at e6
  have hz : revertA ⟨r, t, s, d⟩ x = if findA ⟨r, t, s, d⟩ x < 0 then (⟨r, t, s, d⟩, 5) else (mend ⟨r, snapAt ⟨r, t, s, d⟩ (findA ⟨r, t, s, d⟩ x).toNat, s, d⟩, 0) := rfl
  rw [hz]
  have hsn := P.snaps
  simp only at hsn
  rcases findA_spec ⟨r, t, s, d⟩ x with ⟨h1, _⟩ | ⟨k, h1, h2, _⟩
  · rw [h1] at e6 ⊢
    rw [if_pos (by omega)]
    simp only
    by_cases hs : s = []
    · subst hs
      simp only [List.map_nil] at e1 e2 e3 e4 e6
      simp [oImgN, oRowsN, rI, rSn] at e2
      refine E_fin Tryz.f27 _ an27 rfl rfl rfl Tryz.func27 rfl (by kernel_rfl) ?_
      simp [go_sem, eImg, e1, e2, e3, e4, e6, resI, oImgN, oRowsN, rI, rSn]
    · simp only [if_neg hs, oImg, oRows, rI, rSn] at e2
      refine E_fin Tryz.f27 _ an27 rfl rfl rfl Tryz.func27 rfl (by kernel_rfl) ?_
      simp [go_sem, eImg, e1, e2, e3, e4, e6, resI, hs, oImg, oRows, rI, rSn]
  · rw [h1] at e6 ⊢
    rw [if_neg (by omega), Int.toNat_natCast]
    have e5 := mended_near (revert_near P h2)
    simp only at h2
    obtain ⟨y, gy⟩ : ∃ y, s[k] = y := ⟨_, rfl⟩
    have hat : snapAt ⟨r, t, s, d⟩ k = y.tab := by simp [snapAt, List.getD_eq_getElem?_getD, List.getElem?_eq_getElem h2, gy]
    have hy := (P.snap h2).1
    rw [hat] at e5 hy ⊢
    have hy12 := tabOK_len hy
    have e9 := cloneInt_E y.tab (by omega)
    rw [resV_if] at e5
    have hKs : (mend ⟨r, y.tab, s, d⟩).snaps = s := rfl
    simp only [eImg] at e5
    generalize mend ⟨r, y.tab, s, d⟩ = K at *
    have hs : s ≠ [] := by intro h; subst h; simp at h2
    simp only [if_neg hs, oImg, oRows, rI, rSn] at e2
    simp [hKs, hs, oImg, oRows, rI, rSn] at e5
    refine E_fin Tryz.f27 _ an27 rfl rfl rfl Tryz.func27 rfl (by kernel_rfl) ?_
    simp [go_sem, eImg, e1, e2, e3, e4, e5, e6, e9, h2, gy, show ¬ (k : Int) < 0 by omega, eSnp, resI, hKs, hs, shares_snps hs, eSnp, oImg, oRows, rI, rSn]
end Go.Proofs.YtndgpinhbffleaaGreat


namespace Go.Proofs.YtndgpinhbffleaaGreat
open Go
set_option maxRecDepth 100000
set_option maxHeartbeats 2000000
set_option linter.unusedSimpArgs false
set_option linter.unusedVariables false
def eSht (x : Sht) : AV := .agg [.str x.name, .sl 1 (x.vals.map (.int .i64))]
/-- A row that may be none. -/
def nilOr (m : Nat) : List AV → AV
  | [] => .nil
  | x :: l => .sl m (x :: l)
theorem nilOr_ne (m : Nat) {l : List AV} (h : l ≠ []) : nilOr m l = .sl m l := by
  cases l with
  | nil => exact absurd rfl h
  | cons x l => rfl
theorem nilSl_or (m : Nat) (l : List AV) : nilSl m (nilOr m l) = .sl m l := by cases l <;> rfl
/-- An image, and a guest, by value; without snapshots they hold none. -/
def vImg (m : Img) : AV := .agg [.sl 1 (m.refs.map (.int .i64)), .sl 1 (m.tab.map (.int .i64)), nilOr 2 (m.snaps.map eSnp), .sl 1 (m.data.map (.int .i64))]
def vGst (x : Gst) : AV := .agg [.sl 1 (x.vals.map (.int .i64)), nilOr 2 (x.shots.map eSht)]
theorem shown1_E (m : Img) (t : List Int) (ht : tabOK t = true) (hd : m.data.length = 24) : E CX 140 [.sl 1 (t.map (.int .i64)), .rptr [.sl 1 (m.refs.map (.int .i64)), .sl 1 (m.tab.map (.int .i64)), .sl 2 (m.snaps.map eSnp), .sl 1 (m.data.map (.int .i64))]] [] = some { val := .ref [0, 0, 0, 0] 0 t.length, own := [⟨false, 3, 1, (t.map (valI m.data)).map (.int .i64), none⟩] } := by
  have h12 := tabOK_len ht
  have ev := fun g hg => value_E m t g hg ht hd
  simp only [eImg] at ev
  refine E_fin Tryz.f140 _ an140 rfl rfl rfl Tryz.func140 rfl (by kernel_rfl) ?_
  simp [go_sem]
  refine loop_for (fun X => fin CX _ _ X = _) t (fun n a => a.length = n) (fun n a => ⟨SS [(0, .sl 1 (t.map (.int .i64))), (1, .rptr [.sl 1 (m.refs.map (.int .i64)), .sl 1 (m.tab.map (.int .i64)), .sl 2 (m.snaps.map eSnp), .sl 1 (m.data.map (.int .i64))]), (4, .ref [6] 0 a.length), (8, .int .i64 t.length), (9, .int .i64 n)], HS [([6], ⟨false, 3, 1, a.map (.int .i64), none⟩)]⟩)
    (fun q n a => (.exit 0, ⟨SS [(4, .ref [6] 0 (a ++ q.map (valI m.data)).length)], HS [([6], ⟨false, 3, 1, (a ++ q.map (valI m.data)).map (.int .i64), none⟩)]⟩)) ([] : List Int) rfl ?_ ?_ ?_ ?_ ?_
  · simp [go_sem]
  · intro R n a x q hn hx hd' hI hR
    have hx := hx hn
    have e1 := ev n hn
    have hg : t.getD n 0 = x := by rw [List.getD_eq_getElem?_getD, List.getElem?_eq_getElem hn, hx]; rfl
    rw [hg] at e1
    have := hR (a ++ [valI m.data x]) (by simp; omega) (by simp)
    simp [go_sem] at this
    simp [go_sem, hn, e1, wrap_id (n := (n : Int) + 1) (by omega), show a.length + 1 ≤ 1073741824 by omega]
    exact this
  · intro a hI; simp [go_sem]
  · intro _; simp
  · simp [go_sem]
def rSh (l : List Sht) : Blk := ⟨false, 54, 2, l.map eSht, none⟩
/-- The rows of a guest in the making. -/
def stSh (m : Img) (v : List Int) (a : List Sht) : List (Id × Blk) := match a with
  | [] => [([2], ⟨true, 44, 2, [.agg [.nil, .nil]], none⟩), ([1], ⟨true, 26, 4, [eImg m], none⟩), ([4], ⟨true, 44, 2, [.agg [.sl 1 (v.map (.int .i64)), .nil]], none⟩)]
  | x :: a => [([2], ⟨true, 44, 2, [.agg [.nil, .nil]], none⟩), ([1], ⟨true, 26, 4, [eImg m], none⟩), ([4], ⟨true, 44, 2, [.agg [.sl 1 (v.map (.int .i64)), .ref [30] 0 (x :: a).length]], none⟩), ([30], rSh (x :: a))]
def stShX (v : List Int) (a : List Sht) : List (Id × Blk) := match a with
  | [] => [([2], ⟨true, 44, 2, [.agg [.nil, .nil]], none⟩), ([4], ⟨true, 44, 2, [.agg [.sl 1 (v.map (.int .i64)), .nil]], none⟩)]
  | x :: a => [([2], ⟨true, 44, 2, [.agg [.nil, .nil]], none⟩), ([4], ⟨true, 44, 2, [.agg [.sl 1 (v.map (.int .i64)), .ref [30] 0 (x :: a).length]], none⟩), ([30], rSh (x :: a))]
def resG (x : Gst) : Res := match x.shots with
  | [] => { val := .agg [.sl 1 (x.vals.map (.int .i64)), .nil] }
  | _ :: _ => { val := .agg [.sl 1 (x.vals.map (.int .i64)), .ref [0, 0, 0, 0] 0 x.shots.length], own := [rSh x.shots] }
theorem shown_E (m : Img) (P : NearP m) : E CX 83 [eImg m] [] = some (resG (shown m)) := by
  have es := fun t ht => shown1_E m t ht P.data
  have e1 := es m.tab (P.tabs _ (List.mem_cons_self ..)).1
  have hs := P.snaps
  have hts : ∀ s ∈ m.snaps, tabOK s.tab = true := fun s hs => (P.tabs s.tab (List.mem_cons_of_mem _ (List.mem_map.2 ⟨s, hs, rfl⟩))).1
  obtain ⟨r, t, s, d⟩ := m
  simp only at e1 es hs hts
  have hsh : shown ⟨r, t, s, d⟩ = ⟨t.map (valI d), s.map fun s => ⟨s.name, s.tab.map (valI d)⟩⟩ := rfl
  rw [hsh]
  have hv : (t.map (valI d)).length = t.length := by simp
  rw [← hv] at e1
  generalize t.map (valI d) = v at *
  refine E_fin Tryz.f83 _ an83 rfl rfl rfl Tryz.func83 rfl (by kernel_rfl) ?_
  simp [go_sem, eImg, e1]
  refine loop_for (fun X => fin CX _ _ X = _) s (fun n a => a.length = n) (fun n a => ⟨SS [(2, .ptr [2] 0 0), (3, .fn 140 [.ptr [1] 0 0]), (4, .ptr [4] 0 0), (14, .sl 2 (s.map eSnp)), (15, .int .i64 s.length), (16, .int .i64 n)], HS (stSh ⟨r, t, s, d⟩ v a)⟩)
    (fun q n a => (.exit 0, ⟨SS [(2, .ptr [2] 0 0), (4, .ptr [4] 0 0)], HS (stShX v (a ++ q.map fun s => ⟨s.name, s.tab.map (valI d)⟩))⟩)) ([] : List Sht) rfl ?_ ?_ ?_ ?_ ?_
  · simp [go_sem, stSh, eImg]
  · intro R n a x q hn hx hd hI hR
    have hx := hx hn
    have e2 := es x.tab (hts x (by rw [← hx]; exact List.getElem_mem hn))
    have hw : (x.tab.map (valI d)).length = x.tab.length := by simp
    rw [← hw] at e2
    have := hR (a ++ [⟨x.name, x.tab.map (valI d)⟩]) (by simp; omega) (by simp)
    generalize x.tab.map (valI d) = z at *
    rcases a with _ | ⟨y, a⟩
    · simp [go_sem, stSh, rSh, eSht, eImg] at this
      simp [go_sem, stSh, rSh, hn, hx, eSht, eSnp, eImg, e2, wrap_id (n := (n : Int) + 1) (by omega)]
      simp at hI
      exact this
    · simp [go_sem, stSh, rSh, eSht, eImg] at this
      simp at hI
      simp [go_sem, stSh, rSh, hn, hx, eSht, eSnp, eImg, e2, wrap_id (n := (n : Int) + 1) (by omega), show a.length + 1 + 1 ≤ 1073741824 by omega]
      exact this
  · intro a hI
    rcases a with _ | ⟨y, a⟩ <;> simp [go_sem, stSh, stShX, rSh, eImg]
  · intro _; simp
  · rcases s with _ | ⟨y, s⟩ <;> simp [go_sem, stShX, rSh, resG]
theorem guestOf_E (m : Img) (B : ImgB m) : E CX 29 [eImg m] [] = some (if imgOK m then { val := .tuple [vGst (shown m), .int .i64 0] } else { val := .tuple [.agg [.nil, .nil], .int .i64 1] }) := by
  have e1 := imageOK_E m B
  cases c1 : imgOK m
  · rw [c1] at e1
    simp only [eImg] at e1
    refine E_fin Tryz.f29 _ an29 rfl rfl rfl Tryz.func29 rfl (by kernel_rfl) ?_
    simp [go_sem, eImg, e1]
  · rw [c1] at e1
    have e2 := shown_E m (imgP c1).toNearP
    generalize shown m = G at *
    obtain ⟨v, h⟩ := G
    simp only [eImg] at e1 e2
    rcases h with _ | ⟨y, h⟩
    · simp only [resG] at e2
      refine E_fin Tryz.f29 _ an29 rfl rfl rfl Tryz.func29 rfl (by kernel_rfl) ?_
      simp [go_sem, eImg, e1, e2, vGst, nilOr]
    · simp only [resG, rSh] at e2
      refine E_fin Tryz.f29 _ an29 rfl rfl rfl Tryz.func29 rfl (by kernel_rfl) ?_
      simp [go_sem, eImg, e1, e2, vGst, nilOr]
theorem newImage_E (n : Nat) (h : n ≤ 12) : E CX 88 [.int .i64 n] [] = some { val := .agg [.ref [0, 0, 0, 0] 0 24, .ref [1, 0, 0, 0] 0 n, .nil, .ref [2, 0, 0, 0] 0 24], own := [⟨false, 3, 1, List.replicate 24 (.int .i64 0), none⟩, ⟨false, 3, 1, List.replicate n (.int .i64 0), none⟩, ⟨false, 3, 1, List.replicate 24 (.int .i64 0), none⟩] } := by
  refine E_fin Tryz.f88 _ an88 rfl rfl rfl Tryz.func88 rfl (by kernel_rfl) ?_
  simp [go_sem, -List.reduceReplicate, show 8 * (n : Int) ≤ 140737488355328 by omega, show (n : Int) < 9223372036854775808 by omega, show 8 * n ≤ 140737488355328 by omega]
def newI (n : Nat) : Img := ⟨List.replicate 24 0, List.replicate n 0, [], List.replicate 24 0⟩
theorem newImageX_E (n : Nat) (h : n ≤ 12) : E CX 34 [.int .i64 n] [] = some { val := .tuple [vImg (newI n), .int .i64 0] } := by
  have e1 := newImage_E n h
  have e2 := isSize_E n
  rw [show inn (n : Int) 0 12 = true by simp [inn]; omega] at e2
  refine E_fin Tryz.f34 _ an34 rfl rfl rfl Tryz.func34 rfl (by kernel_rfl) ?_
  simp [go_sem, e1, e2, vImg, newI, nilOr, -List.reduceReplicate]
theorem snapNames_E (m : Img) (B : ImgB m) (h : imgOK m = true) : E CX 30 [eImg m] [] = some { val := .tuple [.sl 1 ((m.snaps.map Snp.name).map .str), .int .i64 0] } := by
  have e1 := imageOK_E m B
  rw [h] at e1
  have e2 := names_E m (by have := (imgP h).snaps; omega)
  have hL : (m.snaps.map Snp.name).length = m.snaps.length := by simp
  rw [← hL] at e2
  generalize m.snaps.map Snp.name = L at *
  simp only [eImg] at e1 e2
  refine E_fin Tryz.f30 _ an30 rfl rfl rfl Tryz.func30 rfl (by kernel_rfl) ?_
  simp [go_sem, eImg, e1, e2]
end Go.Proofs.YtndgpinhbffleaaGreat


namespace Go.Proofs.YtndgpinhbffleaaGreat
open Go
set_option maxRecDepth 100000
set_option maxHeartbeats 2000000
set_option linter.unusedSimpArgs false
set_option linter.unusedVariables false
theorem sFree_E (l : List Int) (hl : l.length ≤ 1073741824) : E CX 143 [.sl 1 (l.map (.int .i64))] [] = some { val := .int .i64 (freeI l) } := by
  unfold freeI
  refine E_fin Tryz.f143 _ an143 rfl rfl rfl Tryz.func143 rfl (by kernel_rfl) ?_
  simp [go_sem]
  refine loop_list (fun X => fin CX _ _ X = _) l (fun n _ => True) (fun n (_ : Unit) => ⟨SS [(0, .sl 1 (l.map (.int .i64))), (3, .int .i64 n)], HE⟩)
     (fun r n _ => match firstAt (fun n => decide (n = 0)) r n with
    | some k => (.ret, ⟨SS [(2, .int .i64 k)], HE⟩)
    | none => (.exit 0, ⟨SS [], HE⟩)) () trivial ?_ ?_ ?_ ?_ ?_
  · simp [go_sem]
  · intro n _ x t hn hx hd _
    have hx := hx hn
    by_cases hq : x = 0
    · simp [go_sem, firstAt, hq, hn, hx]
    · simp [go_sem, firstAt, hq, hn, hx, wrap_id (n := (n : Int) + 1) (by omega)]
  · intro _ _; simp [go_sem, firstAt]
  · intro _; simp [firstAt]
  · cases hr : firstAt (fun n => decide (n = 0)) l 0 <;> simp [go_sem, hr, idxOf]
theorem sClusters_E (t : List Int) (h : t.length ≤ 1073741824) (hs : ∀ n ∈ t, n ≤ 25) : E CX 132 [.sl 1 (t.map (.int .i64))] [] = some { val := .ref [0, 0, 0, 0] 0 (clus t).length, own := [⟨false, 3, 1, (clus t).map (.int .i64), none⟩] } := by
  refine E_fin Tryz.f132 _ an132 rfl rfl rfl Tryz.func132 rfl (by kernel_rfl) ?_
  simp [go_sem]
  refine loop_for (fun X => fin CX _ _ X = _) t (fun n a => a.length ≤ n) (fun n a => ⟨SS [(0, .sl 1 (t.map (.int .i64))), (3, .ref [5] 0 a.length), (4, .int .i64 n)], HS [([5], ⟨false, 3, 1, a.map (.int .i64), none⟩)]⟩)
    (fun r n a => (.exit 0, ⟨SS [(3, .ref [5] 0 (a ++ clus r).length)], HS [([5], ⟨false, 3, 1, (a ++ clus r).map (.int .i64), none⟩)]⟩)) ([] : List Int) (by simp) ?_ ?_ ?_ ?_ ?_
  · simp [go_sem]
  · intro R n a x r hn hx hd hI hR
    have hx := hx hn
    have hx25 := hs x (by rw [← hx]; exact List.getElem_mem hn)
    by_cases c : 2 ≤ x
    · have := hR (a ++ [x - 2]) (by simp; omega) (by simp [clus, c])
      simp [go_sem] at this
      simp [go_sem, hn, hx, c, wrap_id (n := x - 2) (by omega), wrap_id (n := (n : Int) + 1) (by omega), show a.length + 1 ≤ 1073741824 by omega]
      exact this
    · have := hR a (by omega) (by simp [clus, c])
      simp [go_sem] at this
      simp [go_sem, hn, hx, c, wrap_id (n := (n : Int) + 1) (by omega)]
      exact this
  · intro a hI; simp [go_sem, clus]
  · intro _; simp
  · simp [go_sem]
theorem sResize_E (t : List Int) (N : Nat) (h : N ≤ 1000000) : E CX 142 [.sl 1 (t.map (.int .i64)), .int .i64 N] [] = some { val := .ref [0, 0, 0, 0] 0 (resz t N).length, own := [⟨false, 3, 1, (resz t N).map (.int .i64), none⟩] } := by
  have hl : (resz t N).length = N := by simp [resz]
  have hg : ∀ n (h : n < (resz t N).length), (resz t N)[n] = t.getD n 0 := by intro n h; simp [resz]
  generalize resz t N = q at *
  refine E_fin Tryz.f142 _ an142 rfl rfl rfl Tryz.func142 rfl (by kernel_rfl) ?_
  simp [go_sem]
  refine loop_for (fun X => fin CX _ _ X = _) q (fun n a => a.length = n) (fun n a => ⟨SS [(0, .sl 1 (t.map (.int .i64))), (1, .int .i64 N), (5, .ref [7] 0 a.length), (6, .int .i64 n)], HS [([7], ⟨false, 3, 1, a.map (.int .i64), none⟩)]⟩)
    (fun r n a => (.exit 0, ⟨SS [(5, .ref [7] 0 (a ++ r).length)], HS [([7], ⟨false, 3, 1, (a ++ r).map (.int .i64), none⟩)]⟩)) ([] : List Int) (by simp) ?_ ?_ ?_ ?_ ?_
  · simp [go_sem]
  · intro R n a x r hn hx hd hI hR
    have hx := hx hn
    rw [hg] at hx
    have hnN : (n : Int) < N := by omega
    have := hR (a ++ [x]) (by simp; omega) (by simp)
    simp [go_sem] at this
    by_cases c : n < t.length
    · have hx' : t[n] = x := by rw [← hx, List.getD_eq_getElem?_getD, List.getElem?_eq_getElem c]; rfl
      simp [go_sem, hnN, c, hx', wrap_id (n := (n : Int) + 1) (by omega), show a.length + 1 ≤ 1073741824 by omega]
      exact this
    · have hx' : x = 0 := by rw [← hx, List.getD_eq_getElem?_getD, List.getElem?_eq_none (by omega)]; rfl
      subst hx'
      simp [go_sem, hnN, c, wrap_id (n := (n : Int) + 1) (by omega), show a.length + 1 ≤ 1073741824 by omega]
      exact this
  · intro a hI; simp [go_sem, hl]
  · intro _; simp
  · simp [go_sem]
theorem sName_E (t : Tx) (h : t.length ≤ 1099511627776) : E CX 97 [.str t] [] = some { val := .bool (snameOK t) } := by
  refine E_fin Tryz.f97 _ an97 rfl rfl rfl Tryz.func97 rfl (by kernel_rfl) ?_
  simp [go_sem]
  refine loop_list (fun X => fin CX _ _ X = _) t (fun n _ => True) (fun n (_ : Unit) => ⟨SS [(0, .str t), (3, .int .i64 n)], HE⟩)
    (fun r n _ => if r.all isLow then (.exit 0, ⟨SS [(0, .str t)], HE⟩) else (.ret, ⟨SS [(2, .bool false)], HE⟩)) () trivial ?_ ?_ ?_ ?_ ?_
  · simp [go_sem]
  · intro n _ x r hn hx hd _
    have hx := hx hn
    by_cases c1 : x.toNat < 97
    · simp [go_sem, hn, hx, c1, isLow, show ¬ 97 ≤ x.toNat by omega, show ((x.toNat : Int) < 97) by omega]
    · by_cases c2 : 122 < x.toNat
      · simp [go_sem, hn, hx, c1, c2, isLow, show ¬ x.toNat ≤ 122 by omega, show ¬ ((x.toNat : Int) < 97) by omega, show (122 < (x.toNat : Int)) by omega]
      · simp [go_sem, hn, hx, c1, c2, isLow, show 97 ≤ x.toNat by omega, show x.toNat ≤ 122 by omega, show ¬ ((x.toNat : Int) < 97) by omega, show ¬ (122 < (x.toNat : Int)) by omega, wrap_id (n := (n : Int) + 1) (by omega)]
  · intro _ _; simp [go_sem]
  · intro _; split <;> simp
  · cases ht : t.all isLow <;> simp [go_sem, ht, l01In_E, snameOK]
theorem sRefsOK_E (r : List Int) (h : r.length ≤ 1073741824) : E CX 184 [.sl 1 (r.map (.int .i64))] [] = some { val := .bool (refsOK r) } := by
  refine E_fin Tryz.f184 _ an184 rfl rfl rfl Tryz.func184 rfl (by kernel_rfl) ?_
  by_cases c0 : 4096 < r.length
  · have : refsOK r = false := by simp [refsOK]; omega
    simp [go_sem, this, show (4096 : Int) < r.length by omega]
  simp [go_sem, show ¬ (4096 : Int) < r.length by omega]
  refine loop_list (fun X => fin CX _ _ X = _) r (fun n _ => True) (fun n (_ : Unit) => ⟨SS [(0, .sl 1 (r.map (.int .i64))), (3, .int .i64 n)], HE⟩)
    (fun q n _ => if q.all (inn · 0 15) then (.exit 0, ⟨SS [(0, .sl 1 (r.map (.int .i64)))], HE⟩) else (.ret, ⟨SS [(2, .bool false)], HE⟩)) () trivial ?_ ?_ ?_ ?_ ?_
  · simp [go_sem]
  · intro n _ x q hn hx hd _
    have hx := hx hn
    cases c : inn x 0 15 <;> simp [go_sem, hn, hx, c, l01In_E, wrap_id (n := (n : Int) + 1) (by omega)]
  · intro _ _; simp [go_sem]
  · intro _; split <;> simp
  · cases ht : r.all (inn · 0 15)
    · simp [go_sem, ht, refsOK]
    · have := beq_nat r.length 24
      simp at this
      simp [go_sem, ht, refsOK, this]
theorem sTableOK_E (r : List Int) (h : r.length ≤ 1073741824) : E CX 185 [.sl 1 (r.map (.int .i64))] [] = some { val := .bool (tabOK r) } := by
  refine E_fin Tryz.f185 _ an185 rfl rfl rfl Tryz.func185 rfl (by kernel_rfl) ?_
  by_cases c0 : 4096 < r.length
  · have : tabOK r = false := by simp [tabOK]; omega
    simp [go_sem, this, show (4096 : Int) < r.length by omega]
  simp [go_sem, show ¬ (4096 : Int) < r.length by omega]
  refine loop_list (fun X => fin CX _ _ X = _) r (fun n _ => True) (fun n (_ : Unit) => ⟨SS [(0, .sl 1 (r.map (.int .i64))), (3, .int .i64 n)], HE⟩)
    (fun q n _ => if q.all (inn · 0 25) then (.exit 0, ⟨SS [(0, .sl 1 (r.map (.int .i64)))], HE⟩) else (.ret, ⟨SS [(2, .bool false)], HE⟩)) () trivial ?_ ?_ ?_ ?_ ?_
  · simp [go_sem]
  · intro n _ x q hn hx hd _
    have hx := hx hn
    cases c : inn x 0 25 <;> simp [go_sem, hn, hx, c, l01In_E, wrap_id (n := (n : Int) + 1) (by omega)]
  · intro _ _; simp [go_sem]
  · intro _; split <;> simp
  · cases ht : r.all (inn · 0 25)
    · simp [go_sem, ht, tabOK]
    · by_cases c : r.length ≤ 12
      · simp [go_sem, ht, tabOK, c, show (r.length : Int) ≤ 12 by omega]
      · simp [go_sem, ht, tabOK, c, show ¬ (r.length : Int) ≤ 12 by omega]
theorem sInt_E (n : Int) : E CX 89 [.int .i64 n] [] = some { val := .bool (isNum n) } := by
  refine E_fin Tryz.f89 _ an89 rfl rfl rfl Tryz.func89 rfl (by kernel_rfl) ?_
  simp [go_sem, l01In_E, isNum]
/-- Does an element stand ahead? -/
def twF (pre : List Int) : List Int → Bool
  | [] => false
  | x :: q => pre.contains x || twF (pre ++ [x]) q
theorem twF_nodup : ∀ (q pre : List Int), twF pre q = !decide (q.Nodup ∧ ∀ x ∈ q, x ∉ pre) := by
  intro q
  induction q with
  | nil => intro pre; simp [twF]
  | cons x q ih =>
    intro pre
    unfold twF
    rw [ih, Bool.eq_iff_iff]
    simp only [Bool.or_eq_true, List.contains_iff_mem, Bool.not_eq_true', decide_eq_false_iff_not, List.nodup_cons, List.mem_append, List.mem_cons, List.not_mem_nil, or_false, List.mem_singleton]
    constructor
    · rintro (h | h) ⟨⟨h1, h2⟩, h3⟩
      · exact h3 x (.inl rfl) h
      · refine h ⟨h2, fun y hy => ?_⟩
        rintro (h4 | rfl)
        · exact h3 y (.inr hy) h4
        · exact h1 hy
    · intro h
      by_cases hx : x ∈ pre
      · exact .inl hx
      · refine .inr fun ⟨h2, h3⟩ => h ⟨⟨fun hm => h3 x hm (.inr rfl), h2⟩, fun y hy => ?_⟩
        rcases hy with rfl | hy
        · exact hx
        · exact fun hp => h3 y hy (.inl hp)
theorem sTwice_E (t : List Int) (h : tabOK t = true) : E CX 131 [.sl 1 (t.map (.int .i64))] [] = some { val := .bool (!onceB t) } := by
  have ht := tabOK_len h
  have e1 := sClusters_E t (by omega) (fun x hx => tab_le' h x hx)
  have hcl := clus_len t
  have hb : (!onceB t) = twF [] (clus t) := by
    rw [twF_nodup]; simp [onceB]
  rw [hb]
  generalize clus t = cs at *
  refine E_fin Tryz.f131 _ an131 rfl rfl rfl Tryz.func131 rfl (by kernel_rfl) ?_
  simp [go_sem, e1]
  refine loop_list (fun X => fin CX _ _ X = _) cs (fun n _ => True) (fun n (_ : Unit) => ⟨SS [(3, .sl 1 (cs.map (.int .i64))), (4, .int .i64 n)], HE⟩)
    (fun q n _ => if twF (cs.take n) q then (.ret, ⟨SS [(2, .bool true)], HE⟩) else (.exit 0, ⟨SS [], HE⟩)) () trivial ?_ ?_ ?_ ?_ ?_
  · simp [go_sem]
  · intro n _ x q hn hx hd _
    have hx := hx hn
    have htk : cs.take (n + 1) = cs.take n ++ [x] := by rw [List.take_succ, List.getElem?_eq_getElem hn, hx]; rfl
    simp [go_sem, hn]
    refine loop_list (fun X => Back (keepSt an131 0) _ _ X) (cs.take n) (fun k _ => True) (fun k (_ : Unit) => ⟨SS [(3, .sl 1 (cs.map (.int .i64))), (4, .int .i64 n), (5, .int .i64 k)], HE⟩)
      (fun p k _ => if p.contains x then (.ret, ⟨SS [(2, .bool true)], HE⟩) else (.exit 2, ⟨SS [(3, .sl 1 (cs.map (.int .i64))), (4, .int .i64 n)], HE⟩)) () trivial ?_ ?_ ?_ ?_ ?_
    · simp [go_sem]
    · intro k _ y p hk hy hd' _
      have hk' : k < n := by rw [List.length_take] at hk; omega
      have hkc : k < cs.length := by omega
      have hy := hy hk
      rw [List.getElem_take] at hy
      by_cases c : x = y
      · simp [go_sem, hn, hx, hk', hkc, hy, c]
      · simp [go_sem, hn, hx, hk', hkc, hy, c, wrap_id (n := (k : Int) + 1) (by omega)]
    · intro _ _
      have : min n cs.length = n := by omega
      simp [go_sem, this]
    · intro _; split <;> simp
    · by_cases hm : x ∈ cs.take n
      · simp [go_sem, twF, hm]
      · simp [go_sem, twF, hm, htk, wrap_id (n := (n : Int) + 1) (by omega)]
  · intro _ _; simp [go_sem, twF]
  · intro _; split <;> simp
  · cases hc : twF [] cs <;> simp [go_sem, hc]
end Go.Proofs.YtndgpinhbffleaaGreat


namespace Go.Proofs.YtndgpinhbffleaaGreat
open Go
set_option maxRecDepth 100000
set_option maxHeartbeats 2000000
set_option linter.unusedSimpArgs false
set_option linter.unusedVariables false
theorem sCount_E (m : Img) (hs : m.snaps.length ≤ 1000) (ht : ∀ t ∈ tabs m, tabOK t = true) : E CX 64 [eImg m] [] = some { val := .ref [0, 0, 0, 0] 0 24, own := [⟨false, 3, 1, (cnt (tabs m)).map (.int .i64), none⟩] } := by
  have hc := counts_cnt (tabs m) ht
  have htb : tabs m = m.tab :: m.snaps.map Snp.tab := rfl
  rw [← hc]
  obtain ⟨r, t, s, d⟩ := m
  simp only at hs htb
  refine E_fin Tryz.f64 _ an64 rfl rfl rfl Tryz.func64 rfl (by kernel_rfl) ?_
  simp [go_sem, eImg, -List.reduceReplicate]
  refine loop_for (fun X => fin CX _ _ X = _) s (fun n a => a.length = n + 1) (fun n a => ⟨SS [(1, .ptr [1] 0 0), (3, .ref [9] 0 24), (4, .ref [12] 0 a.length), (5, .int .i64 n)], HS [([1], ⟨true, 26, 4, [eImg ⟨r, t, s, d⟩], none⟩), ([9], ⟨false, 3, 1, List.replicate 24 (.int .i64 0), none⟩), ([12], ⟨false, 23, 1, a.map eTab, none⟩)]⟩)
    (fun q n a => (.exit 0, ⟨SS [(3, .ref [9] 0 24), (4, .ref [12] 0 (a ++ q.map Snp.tab).length)], HS [([9], ⟨false, 3, 1, List.replicate 24 (.int .i64 0), none⟩), ([12], ⟨false, 23, 1, (a ++ q.map Snp.tab).map eTab, none⟩)]⟩)) [t] rfl ?_ ?_ ?_ ?_ ?_
  · simp [go_sem, eImg, eTab, -List.reduceReplicate]
  · intro R n a x q hn hx hd hI hR
    have hx := hx hn
    have := hR (a ++ [x.tab]) (by simp; omega) (by simp)
    simp [go_sem, eImg, eTab, -List.reduceReplicate] at this
    simp [go_sem, hn, hx, eSnp, eImg, eTab, -List.reduceReplicate, wrap_id (n := (n : Int) + 1) (by omega), show a.length + 1 ≤ 1073741824 by omega]
    exact this
  · intro a hI; simp [go_sem, eImg, -List.reduceReplicate]
  · intro _; simp
  have hTl : ([t] ++ s.map Snp.tab) = tabs ⟨r, t, s, d⟩ := rfl
  rw [hTl]
  have hT : (tabs ⟨r, t, s, d⟩).length ≤ 1001 := by simp [tabs]; omega
  generalize tabs ⟨r, t, s, d⟩ = T at *
  simp [go_sem, -List.reduceReplicate]
  refine loop_for (fun X => fin CX _ _ X = _) T (fun n (a : List Int) => a.length = 24 ∧ ∀ x ∈ a, 0 ≤ x ∧ x ≤ 100 * (n : Int)) (fun n a => ⟨SS [(3, .ref [9] 0 24), (4, .ref [12] 0 T.length), (6, .int .i64 n)], HS [([9], ⟨false, 3, 1, a.map (.int .i64), none⟩), ([12], ⟨false, 23, 1, T.map eTab, none⟩)]⟩)
    (fun r n a => (.exit 2, ⟨SS [(3, .ref [9] 0 24)], HS [([9], ⟨false, 3, 1, (r.foldl (fun l t => (clus t).foldl bump l) a).map (.int .i64), none⟩)]⟩)) (List.replicate 24 (0 : Int)) ?_ ?_ ?_ ?_ ?_ ?_
  · refine ⟨by simp, fun x hx => ?_⟩
    rw [List.mem_replicate] at hx
    omega
  · simp [go_sem, -List.reduceReplicate]
  · rintro R n a t r hn hx hd ⟨hI1, hI2⟩ hR
    have hx := hx hn
    have htm := ht t (by rw [← hx]; exact List.getElem_mem hn)
    have hlen := tabOK_len htm
    have e2 := sClusters_E t (by omega) (fun x hx => tab_le' htm x hx)
    have hcl := clus_len t
    have hcm : ∀ c ∈ clus t, 0 ≤ c ∧ c < 24 := fun c hc => tab_clus htm hc
    simp [go_sem, hn, hx, eTab, e2]
    generalize hcs : clus t = cs at e2 hcl hcm ⊢
    refine loop_for (fun X => Back (keepSt an64 2) _ R X) cs (fun k (b : List Int) => b.length = 24 ∧ ∀ x ∈ b, 0 ≤ x ∧ x ≤ 100 * (n : Int) + (k : Int)) (fun k b => ⟨SS [(3, .ref [9] 0 24), (4, .ref [12] 0 T.length), (6, .int .i64 n), (7, .sl 1 (cs.map (.int .i64))), (8, .int .i64 k)], HS [([9], ⟨false, 3, 1, b.map (.int .i64), none⟩), ([12], ⟨false, 23, 1, T.map eTab, none⟩)]⟩)
      (fun r k b => (.exit 4, ⟨SS [(3, .ref [9] 0 24), (4, .ref [12] 0 T.length), (6, .int .i64 n)], HS [([9], ⟨false, 3, 1, (r.foldl bump b).map (.int .i64), none⟩), ([12], ⟨false, 23, 1, T.map eTab, none⟩)]⟩)) a ⟨hI1, fun x hx => by have := hI2 x hx; omega⟩ ?_ ?_ ?_ ?_ ?_
    · simp [go_sem, eTab]
    · rintro R' k b c r' hk hy hd' ⟨hJ1, hJ2⟩ hR'
      have hy := hy hk
      have hc2 := hcm c (by rw [← hy]; exact List.getElem_mem hk)
      have := hR' (bump b c) ⟨by rw [bump_len]; exact hJ1, fun x hx => by have := bump_bd (c := c) hJ2 (by omega) x hx; omega⟩ (by simp)
      simp [go_sem] at this
      have hlt : c.toNat < b.length := by omega
      obtain ⟨v, gv⟩ : ∃ v, b[c.toNat] = v := ⟨_, rfl⟩
      have hv := hJ2 v (by rw [← gv]; exact List.getElem_mem hlt)
      have hb : bump b c = b.set c.toNat (v + 1) := by unfold bump; rw [List.getD_eq_getElem?_getD, List.getElem?_eq_getElem hlt, gv]; rfl
      rw [hb] at this
      simp [go_sem, hk, hy, hc2.1, hJ1, show c.toNat < 24 by omega, gv, wrap_id (n := v + 1) (by omega), wrap_id (n := (k : Int) + 1) (by omega)]
      simp at this
      exact this
    · intro b hJ; simp [go_sem]
    · intro _; simp
    · have := hR (cs.foldl bump a) ⟨by rw [bumps_len]; exact hI1, ?_⟩ (by simp [hcs])
      · simp [go_sem] at this
        simp [go_sem, wrap_id (n := (n : Int) + 1) (by omega)]
        exact this
      · intro x hx
        have := bumps_bd cs a _ hI2 (by omega) x hx
        omega
  · intro a hI; simp [go_sem]
  · intro _; simp
  · simp [go_sem]
/-- Are snapshots right, and their names not there ahead? -/
def okF (pre : List Tx) : List Snp → Bool
  | [] => true
  | x :: q => snameOK x.name && tabOK x.tab && !pre.contains x.name && okF (pre ++ [x.name]) q
theorem okF_eq : ∀ (q : List Snp) (pre : List Tx), okF pre q = true ↔ (∀ x ∈ q, snameOK x.name = true ∧ tabOK x.tab = true ∧ x.name ∉ pre) ∧ (q.map Snp.name).Nodup := by
  intro q
  induction q with
  | nil => intro pre; simp [okF]
  | cons x q ih =>
    intro pre
    unfold okF
    simp only [Bool.and_eq_true, Bool.not_eq_true', ih, List.map_cons, List.nodup_cons, List.mem_cons, forall_eq_or_imp, List.mem_append, List.mem_singleton]
    constructor
    · rintro ⟨⟨⟨h1, h2⟩, h3⟩, h4, h5⟩
      have h3' : x.name ∉ pre := by
        intro h; rw [← List.contains_iff_mem] at h; rw [h] at h3; cases h3
      refine ⟨⟨⟨h1, h2, h3'⟩, fun y hy => ?_⟩, ?_, h5⟩
      · obtain ⟨a, b, c⟩ := h4 y hy
        exact ⟨a, b, fun h => c (.inl h)⟩
      · intro hm
        obtain ⟨y, hy, hyn⟩ := List.mem_map.1 hm
        exact (h4 y hy).2.2 (.inr (by simpa using hyn))
    · rintro ⟨⟨⟨h1, h2, h3⟩, h4⟩, h5, h6⟩
      refine ⟨⟨⟨h1, h2⟩, ?_⟩, fun y hy => ?_, h6⟩
      · cases hc : pre.contains x.name
        · rfl
        · exact absurd (List.contains_iff_mem.1 hc) h3
      · obtain ⟨a, b, c⟩ := h4 y hy
        refine ⟨a, b, ?_⟩
        rintro (h | h)
        · exact c h
        · exact h5 (List.mem_map.2 ⟨y, hy, by simpa using h⟩)
def formB (m : Img) : Bool := refsOK m.refs && tabOK m.tab && decide (m.snaps.length ≤ 3) && decide (m.data.length = 24) && okF [] m.snaps && m.data.all isNum
theorem nearOK_form (m : Img) : nearOK m = (formB m && onceB m.tab && m.snaps.all fun s => onceB s.tab) := by
  unfold nearOK formB snamesOK tabs
  rw [Bool.eq_iff_iff]
  simp only [Bool.and_eq_true, List.all_eq_true, decide_eq_true_eq, okF_eq, List.mem_cons, forall_eq_or_imp, List.mem_map, List.length_map, List.not_mem_nil, not_false_eq_true, and_true, forall_exists_index, and_imp, forall_apply_eq_imp_iff₂]
  constructor
  · rintro ⟨⟨⟨⟨h1, ⟨h2, h3⟩, h4⟩, ⟨h5, h6⟩, h7⟩, h8⟩, h9⟩
    exact ⟨⟨⟨⟨⟨⟨⟨h1, h5⟩, h2⟩, h8⟩, fun x hx => ⟨h3 x hx, (h7 x hx).1⟩, h4⟩, h9⟩, h6⟩, fun x hx => (h7 x hx).2⟩
  · rintro ⟨⟨⟨⟨⟨⟨⟨h1, h5⟩, h2⟩, h8⟩, h3, h4⟩, h9⟩, h6⟩, h7⟩
    exact ⟨⟨⟨⟨h1, ⟨h2, fun x hx => (h3 x hx).1⟩, h4⟩, ⟨h5, h6⟩, fun x hx => ⟨(h3 x hx).2, h7 x hx⟩⟩, h8⟩, h9⟩
theorem sForm_E (m : Img) (B : ImgB m) : E CX 130 [eImg m] [] = some { val := .bool (formB m) } := by
  have e1 := sRefsOK_E m.refs B.refs
  have e2 := sTableOK_E m.tab B.tab
  have hnm := B.names
  have htb := B.tabs
  have hBd := B.data
  obtain ⟨r, t, s, d⟩ := m
  simp only at e1 e2 hnm htb hBd
  unfold formB
  simp only
  refine E_fin Tryz.f130 _ an130 rfl rfl rfl Tryz.func130 rfl (by kernel_rfl) ?_
  cases c1 : refsOK r
  · rw [c1] at e1; simp [go_sem, eImg, e1]
  rw [c1] at e1
  cases c2 : tabOK t
  · rw [c2] at e2; simp [go_sem, eImg, e1, e2]
  rw [c2] at e2
  by_cases c3 : s.length ≤ 3
  · by_cases c4 : d.length = 24
    · simp [go_sem, eImg, e1, e2, c3, c4, show ¬ (3 : Int) < s.length by omega]
      refine loop_list (fun X => fin CX _ _ X = _) s (fun n _ => True) (fun n (_ : Unit) => ⟨SS [(1, .ptr [1] 0 0), (3, .int .i64 n)], HS [([1], ⟨true, 26, 4, [eImg ⟨r, t, s, d⟩], none⟩)]⟩)
        (fun q n _ => if okF ((s.take n).map Snp.name) q then (.exit 0, ⟨SS [(1, .ptr [1] 0 0)], HS [([1], ⟨true, 26, 4, [eImg ⟨r, t, s, d⟩], none⟩)]⟩) else (.ret, ⟨SS [(2, .bool false)], HE⟩)) () trivial ?_ ?_ ?_ ?_ ?_
      · simp [go_sem, eImg]
      · intro n _ x q hn hx hd _
        have hx := hx hn
        have hm : x ∈ s := by rw [← hx]; exact List.getElem_mem hn
        have e3 := sName_E x.name (hnm x hm)
        have e4 := sTableOK_E x.tab (htb x hm)
        have htk : (s.take (n + 1)).map Snp.name = (s.take n).map Snp.name ++ [x.name] := by rw [List.take_succ, List.getElem?_eq_getElem hn, hx]; simp
        cases c5 : snameOK x.name
        · rw [c5] at e3; simp [go_sem, eImg, eSnp, hn, hx, e3, okF, c5]
        rw [c5] at e3
        cases c6 : tabOK x.tab
        · rw [c6] at e4; simp [go_sem, eImg, eSnp, hn, hx, e3, e4, okF, c5, c6]
        rw [c6] at e4
        simp [go_sem, eImg, eSnp, hn, hx, e3, e4]
        refine loop_list (fun X => Back (keepSt an130 0) _ _ X) (s.take n) (fun k _ => True) (fun k (_ : Unit) => ⟨SS [(1, .ptr [1] 0 0), (3, .int .i64 n), (4, .int .i64 k)], HS [([1], ⟨true, 26, 4, [eImg ⟨r, t, s, d⟩], none⟩)]⟩)
          (fun p k _ => if (p.map Snp.name).contains x.name then (.ret, ⟨SS [(2, .bool false)], HE⟩) else (.exit 2, ⟨SS [(1, .ptr [1] 0 0), (3, .int .i64 n)], HS [([1], ⟨true, 26, 4, [eImg ⟨r, t, s, d⟩], none⟩)]⟩)) () trivial ?_ ?_ ?_ ?_ ?_
        · simp [go_sem, eImg]
        · intro k _ y p hk hy hd' _
          have hk' : k < n := by rw [List.length_take] at hk; omega
          have hkc : k < s.length := by omega
          have hy := hy hk
          rw [List.getElem_take] at hy
          by_cases c : x.name = y.name
          · simp [go_sem, eImg, eSnp, hn, hx, hk', hkc, hy, c]
          · simp [go_sem, eImg, eSnp, hn, hx, hk', hkc, hy, c, show ¬ y.name = x.name from fun h => c h.symm, wrap_id (n := (k : Int) + 1) (by omega)]
        · intro _ _
          have : min n s.length = n := by omega
          simp [go_sem, eImg, this]
        · intro _; split <;> simp
        · by_cases hm : x.name ∈ (s.take n).map Snp.name
          · have h1 : ((s.take n).map Snp.name).contains x.name = true := List.contains_iff_mem.2 hm
            rw [h1]
            have hm2 := hm
            rw [List.map_take] at hm2
            simp [go_sem, eImg, okF, hm2, c5, c6]
          · have h1 : ((s.take n).map Snp.name).contains x.name = false := by
              cases hc : ((s.take n).map Snp.name).contains x.name
              · rfl
              · exact absurd (List.contains_iff_mem.1 hc) hm
            rw [h1]
            have hm2 := hm
            have htk2 := htk
            rw [List.map_take] at hm2
            rw [List.map_take, List.map_take] at htk2
            simp [go_sem, eImg, okF, hm2, htk2, c5, c6, wrap_id (n := (n : Int) + 1) (by omega)]
      · intro _ _; simp [go_sem, eImg, okF]
      · intro _; split <;> simp
      cases c5 : okF [] s
      · simp [go_sem, c5]
      · simp [go_sem, eImg, c5]
        refine loop_list (fun X => fin CX _ _ X = _) d (fun n _ => True) (fun n (_ : Unit) => ⟨SS [(1, .ptr [1] 0 0), (5, .int .i64 n)], HS [([1], ⟨true, 26, 4, [eImg ⟨r, t, s, d⟩], none⟩)]⟩)
          (fun q n _ => if q.all isNum then (.exit 4, ⟨SS [], HE⟩) else (.ret, ⟨SS [(2, .bool false)], HE⟩)) () trivial ?_ ?_ ?_ ?_ ?_
        · simp [go_sem, eImg]
        · intro n _ x q hn hx hd _
          have hx := hx hn
          cases c : isNum x <;> simp [go_sem, eImg, hn, hx, c, sInt_E, wrap_id (n := (n : Int) + 1) (by omega)]
        · intro _ _; simp [go_sem, eImg]
        · intro _; split <;> simp
        · cases c6 : d.all isNum <;> simp [go_sem, c6]
    · simp [go_sem, eImg, e1, e2, c3, c4, show ¬ (3 : Int) < s.length by omega, show ¬ (d.length : Int) = 24 by omega]
  · simp [go_sem, eImg, e1, e2, c3, show (3 : Int) < s.length by omega]
end Go.Proofs.YtndgpinhbffleaaGreat


namespace Go.Proofs.YtndgpinhbffleaaGreat
open Go
set_option maxRecDepth 100000
set_option maxHeartbeats 2000000
set_option linter.unusedSimpArgs false
set_option linter.unusedVariables false
theorem formB_tab {m : Img} (h : formB m = true) : refsOK m.refs = true ∧ tabOK m.tab = true ∧ m.snaps.length ≤ 3 ∧ m.data.length = 24 ∧ ∀ s ∈ m.snaps, tabOK s.tab = true := by
  unfold formB at h
  simp only [Bool.and_eq_true, decide_eq_true_eq, okF_eq] at h
  obtain ⟨⟨⟨⟨⟨h1, h2⟩, h3⟩, h4⟩, h5, _⟩, _⟩ := h
  exact ⟨h1, h2, h3, h4, fun s hs => (h5 s hs).2.1⟩
theorem sForm12_E (m : Img) (B : ImgB m) : E CX 62 [eImg m] [] = some { val := .bool (nearOK m) } := by
  have e1 := sForm_E m B
  rw [nearOK_form]
  cases c1 : formB m
  · rw [c1] at e1
    simp only [eImg] at e1
    refine E_fin Tryz.f62 _ an62 rfl rfl rfl Tryz.func62 rfl (by kernel_rfl) ?_
    simp [go_sem, eImg, e1]
  rw [c1] at e1
  obtain ⟨_, h2, h3, _, h5⟩ := formB_tab c1
  have e2 := sTwice_E m.tab h2
  obtain ⟨r, t, s, d⟩ := m
  simp only [eImg] at e1 e2 h3 h5
  refine E_fin Tryz.f62 _ an62 rfl rfl rfl Tryz.func62 rfl (by kernel_rfl) ?_
  simp only
  cases c2 : onceB t
  · rw [c2] at e2; simp at e2
    simp [go_sem, eImg, e1, e2]
  rw [c2] at e2; simp at e2
  simp [go_sem, eImg, e1, e2]
  refine loop_list (fun X => fin CX _ _ X = _) s (fun n _ => True) (fun n (_ : Unit) => ⟨SS [(1, .ptr [1] 0 0), (3, .int .i64 n)], HS [([1], ⟨true, 26, 4, [eImg ⟨r, t, s, d⟩], none⟩)]⟩)
    (fun q n _ => if q.all (fun s => onceB s.tab) then (.exit 0, ⟨SS [], HE⟩) else (.ret, ⟨SS [(2, .bool false)], HE⟩)) () trivial ?_ ?_ ?_ ?_ ?_
  · simp [go_sem, eImg]
  · intro n _ x q hn hx hd _
    have hx := hx hn
    have e3 := sTwice_E x.tab (h5 x (by rw [← hx]; exact List.getElem_mem hn))
    cases c : onceB x.tab
    · rw [c] at e3; simp at e3
      simp [go_sem, eImg, eSnp, hn, hx, c, e3]
    · rw [c] at e3; simp at e3
      simp [go_sem, eImg, eSnp, hn, hx, c, e3, wrap_id (n := (n : Int) + 1) (by omega)]
  · intro _ _; simp [go_sem, eImg]
  · intro _; split <;> simp
  · cases c6 : s.all (fun s => onceB s.tab) <;> simp [go_sem, c6]
def okR : List Int → List Int → List Int → Bool
  | n :: ns, r :: rs, d :: ds => decide (n = r) && (!decide (n = 0) || decide (d = 0)) && okR ns rs ds
  | _, _, _ => true
theorem okR_eq : ∀ (n r d : List Int), n.length = r.length → d.length = r.length → okR n r d = (decide (r = n) && restL d r) := by
  intro n
  induction n with
  | nil => intro r d h1 h2; cases r with
    | nil => simp [okR, restL]
    | cons y r => simp at h1
  | cons x n ih =>
    intro r d h1 h2
    cases r with
    | nil => simp at h1
    | cons y r =>
      cases d with
      | nil => simp at h2
      | cons z d =>
        simp only [okR, restL]
        rw [ih r d (by simpa using h1) (by simpa using h2)]
        by_cases c : x = y
        · subst c
          simp only [List.cons.injEq, true_and, decide_true, Bool.true_and]
          rw [Bool.eq_iff_iff]
          simp only [Bool.and_eq_true]
          constructor
          · rintro ⟨a, b, c⟩; exact ⟨b, a, c⟩
          · rintro ⟨b, a, c⟩; exact ⟨a, b, c⟩
        · have : ¬ y = x := fun h => c h.symm
          simp [c, this]
theorem sImageOK_E (m : Img) (B : ImgB m) : E CX 85 [eImg m] [] = some { val := .bool (imgOK m) } := by
  have e1 := sForm_E m B
  have hi : imgOK m = (nearOK m && (decide (m.refs = cnt (tabs m)) && restOK m)) := by
    unfold imgOK; rw [Bool.and_assoc]
  rw [hi, nearOK_form]
  cases c1 : formB m
  · rw [c1] at e1
    simp only [eImg] at e1
    refine E_fin Tryz.f85 _ an85 rfl rfl rfl Tryz.func85 rfl (by kernel_rfl) ?_
    simp [go_sem, eImg, e1]
  rw [c1] at e1
  obtain ⟨h1, h2, h3, h4, h5⟩ := formB_tab c1
  have h24 : m.refs.length = 24 := by simp [refsOK] at h1; exact h1.1
  have e2 := sTwice_E m.tab h2
  have e4 := sCount_E m (by omega) (fun t ht => by
    rcases List.mem_cons.1 ht with rfl | ht
    · exact h2
    · obtain ⟨x, hx, rfl⟩ := List.mem_map.1 ht; exact h5 x hx)
  have hr : (decide (m.refs = cnt (tabs m)) && restOK m) = okR (cnt (tabs m)) m.refs m.data := by
    rw [okR_eq _ _ _ (by rw [cnt_len]; exact h24.symm) (by omega)]
    unfold restOK
    rw [restL_range _ _ (by omega), h4]
  rw [hr]
  have hC : (cnt (tabs m)).length = 24 := cnt_len _
  generalize cnt (tabs m) = C at *
  obtain ⟨r, t, s, d⟩ := m
  simp only [eImg] at e1 e2 e4 h3 h4 h5 h24
  refine E_fin Tryz.f85 _ an85 rfl rfl rfl Tryz.func85 rfl (by kernel_rfl) ?_
  simp only
  cases c2 : onceB t
  · rw [c2] at e2; simp at e2
    simp [go_sem, eImg, e1, e2]
  rw [c2] at e2; simp at e2
  simp [go_sem, eImg, e1, e2]
  refine loop_list (fun X => fin CX _ _ X = _) s (fun n _ => True) (fun n (_ : Unit) => ⟨SS [(1, .ptr [1] 0 0), (3, .int .i64 n)], HS [([1], ⟨true, 26, 4, [eImg ⟨r, t, s, d⟩], none⟩)]⟩)
    (fun q n _ => if q.all (fun s => onceB s.tab) then (.exit 0, ⟨SS [(1, .ptr [1] 0 0)], HS [([1], ⟨true, 26, 4, [eImg ⟨r, t, s, d⟩], none⟩)]⟩) else (.ret, ⟨SS [(2, .bool false)], HE⟩)) () trivial ?_ ?_ ?_ ?_ ?_
  · simp [go_sem, eImg]
  · intro n _ x q hn hx hd _
    have hx := hx hn
    have e3 := sTwice_E x.tab (h5 x (by rw [← hx]; exact List.getElem_mem hn))
    cases c : onceB x.tab
    · rw [c] at e3; simp at e3
      simp [go_sem, eImg, eSnp, hn, hx, c, e3]
    · rw [c] at e3; simp at e3
      simp [go_sem, eImg, eSnp, hn, hx, c, e3, wrap_id (n := (n : Int) + 1) (by omega)]
  · intro _ _; simp [go_sem, eImg]
  · intro _; split <;> simp
  cases c6 : s.all (fun s => onceB s.tab)
  · simp [go_sem, c6]
  simp [go_sem, eImg, c6, e4, hC]
  refine loop_list (fun X => fin CX _ _ X = _) C (fun n _ => True) (fun n (_ : Unit) => ⟨SS [(1, .ptr [1] 0 0), (4, .sl 1 (C.map (.int .i64))), (5, .int .i64 n)], HS [([1], ⟨true, 26, 4, [eImg ⟨r, t, s, d⟩], none⟩)]⟩)
    (fun q n _ => if okR q (r.drop n) (d.drop n) then (.exit 2, ⟨SS [], HE⟩) else (.ret, ⟨SS [(2, .bool false)], HE⟩)) () trivial ?_ ?_ ?_ ?_ ?_
  · simp [go_sem, eImg]
  · intro n _ x q hn hx hd _
    have hx := hx hn
    have hnr : n < r.length := by omega
    have hnd : n < d.length := by omega
    have h24i : (n : Int) < 24 := by omega
    have h24n : n < 24 := by omega
    obtain ⟨y, gy⟩ : ∃ y, r[n] = y := ⟨_, rfl⟩
    obtain ⟨z, gz⟩ : ∃ z, d[n] = z := ⟨_, rfl⟩
    have hb : r.drop n = y :: r.drop (n + 1) := by rw [← gy]; exact List.drop_eq_getElem_cons hnr
    have hb2 : d.drop n = z :: d.drop (n + 1) := by rw [← gz]; exact List.drop_eq_getElem_cons hnd
    rw [hb, hb2]
    by_cases k0 : x = y
    · by_cases k1 : x = 0
      · have k3 : y = 0 := by omega
        by_cases k2 : z = 0
        · simp [go_sem, eImg, hn, hnr, hnd, h24i, h24n, hC, h24, h4, hx, gy, gz, k0, k1, k2, k3, okR, wrap_id (n := (n : Int) + 1) (by omega)]
        · simp [go_sem, eImg, hn, hnr, hnd, h24i, h24n, hC, h24, h4, hx, gy, gz, k0, k1, k2, k3, okR]
      · have k3 : ¬ y = 0 := by omega
        simp [go_sem, eImg, hn, hnr, hnd, h24i, h24n, hC, h24, h4, hx, gy, gz, k0, k1, k3, okR, wrap_id (n := (n : Int) + 1) (by omega)]
    · simp [go_sem, eImg, hn, hnr, hnd, h24i, h24n, hC, h24, h4, hx, gy, gz, k0, okR]
  · intro _ _; simp [go_sem, eImg, okR, hC]
  · intro _; split <;> simp
  · cases c7 : okR C r d <;> simp [go_sem, c7]
theorem sOwn_E (m : Img) (B : ImgB m) : E CX 63 [eImg m] [] = some { val := oImg m, own := oRowp m } := by
  have h1 := B.refs; have h2 := B.tab; have h3 := B.data; have h4 := B.snaps; have h5 := B.tabs
  obtain ⟨r, t, s, d⟩ := m
  simp only at h1 h2 h3 h4 h5
  refine E_fin Tryz.f63 _ an63 rfl rfl rfl Tryz.func63 rfl (by kernel_rfl) ?_
  simp [go_sem, eImg, h1, h2, h3]
  refine loop_for (fun X => fin CX _ _ X = _) s (fun n a => a.length = n) (fun n a => ⟨SS [(1, .ptr [1] 0 0), (2, .ptr [2] 0 0), (3, .ptr [3] 0 0), (4, .int .i64 n)], HS [([1], ⟨true, 26, 4, [eImg ⟨r, t, s, d⟩], none⟩), ([2], ⟨true, 26, 4, [.agg [.nil, .nil, .nil, .nil]], none⟩), ([3], ⟨true, 26, 4, [.agg [.ref [5] 0 r.length, .ref [9] 0 t.length, .ref [13] 0 a.length, .ref [14] 0 d.length]], none⟩), ([5], rI r), ([9], rI t), ([13], rSp a), ([14], rI d)]⟩)
    (fun q n a => (.exit 0, ⟨SS [(2, .ptr [2] 0 0), (3, .ptr [3] 0 0)], HS [([2], ⟨true, 26, 4, [.agg [.nil, .nil, .nil, .nil]], none⟩), ([3], ⟨true, 26, 4, [.agg [.ref [5] 0 r.length, .ref [9] 0 t.length, .ref [13] 0 (a ++ q).length, .ref [14] 0 d.length]], none⟩), ([5], rI r), ([9], rI t), ([13], rSp (a ++ q)), ([14], rI d)]⟩)) ([] : List Snp) rfl ?_ ?_ ?_ ?_ ?_
  · simp [go_sem, rI, rSp, eImg]
  · intro R n a x q hn hx hd hI hR
    have hx := hx hn
    have hxt := h5 x (by rw [← hx]; exact List.getElem_mem hn)
    have := hR (a ++ [x]) (by simp; omega) (by simp)
    simp [go_sem, rI, rSp, eSnp, eImg] at this
    simp [go_sem, rI, rSp, hn, hx, eSnp, eImg, hxt, wrap_id (n := (n : Int) + 1) (by omega), show a.length + 1 ≤ 1073741824 by omega]
    exact this
  · intro a hI
    simp [go_sem, rI, rSp, eImg]
  · intro _; simp
  · simp [go_sem, rI, rSp, oImg, oRowp]
theorem sNew_E (n : Nat) (h : n ≤ 1000) : E CX 135 [.int .i64 n] [] = some { val := oImg (newI n), own := oRowp (newI n) } := by
  refine E_fin Tryz.f135 _ an135 rfl rfl rfl Tryz.func135 rfl (by kernel_rfl) ?_
  simp [go_sem, oImg, oRowp, newI, rI, rSp, -List.reduceReplicate, show 8 * (n : Int) ≤ 140737488355328 by omega, show (n : Int) < 9223372036854775808 by omega, show 8 * n ≤ 140737488355328 by omega]
theorem sFind_E (m : Img) (v : Tx) (hl : m.snaps.length ≤ 1073741824) : E CX 145 [eImg m, .str v] [] = some { val := .int .i64 (findA m v) } := by
  unfold findA
  obtain ⟨r, t, s, d⟩ := m
  simp only at hl ⊢
  refine E_fin Tryz.f145 _ an145 rfl rfl rfl Tryz.func145 rfl (by kernel_rfl) ?_
  simp [go_sem, eImg]
  refine loop_list (fun X => fin CX _ _ X = _) s (fun n _ => True) (fun n (_ : Unit) => ⟨SS [(1, .str v), (2, .ptr [2] 0 0), (5, .int .i64 n)], HS [([2], ⟨true, 26, 4, [eImg ⟨r, t, s, d⟩], none⟩)]⟩)
     (fun r n _ => match firstAt (fun n => decide (n.name = v)) r n with
    | some k => (.ret, ⟨SS [(4, .int .i64 k)], HE⟩)
    | none => (.exit 0, ⟨SS [], HE⟩)) () trivial ?_ ?_ ?_ ?_ ?_
  · simp [go_sem, eImg]
  · intro n _ x t hn hx hd _
    have hx := hx hn
    by_cases hq : x.name = v
    · simp [go_sem, eImg, eSnp, firstAt, hq, hn, hx]
    · simp [go_sem, eImg, eSnp, firstAt, hq, hn, hx, wrap_id (n := (n : Int) + 1) (by omega)]
  · intro _ _; simp [go_sem, eImg, firstAt]
  · intro _; simp [firstAt]
  · cases hr : firstAt (fun n => decide (n.name = v)) s 0 <;> simp [go_sem, hr, idxOf]
/-! What is lent. -/
def lImg (r t : List Int) (s : List Snp) (d : List Int) : AV := .agg [.ref [0, 0] 0 r.length, .ref [0, 1] 0 t.length, .ref [0, 2] 0 s.length, .ref [0, 3] 0 d.length]
def lRows (r t : List Int) (s : List Snp) (d : List Int) : List (Id × Blk) := [([0, 0], rI r), ([0, 1], rI t), ([0, 2], rSp s), ([0, 3], rI d)]
theorem dropS_bd {p : List Int × List Int} {e K : Int} (h : ∀ x ∈ p.1, -K ≤ x ∧ x ≤ K) (hK : 0 ≤ K) : ∀ x ∈ (dropS p e).1, -(K + 1) ≤ x ∧ x ≤ K + 1 := by
  intro x hx
  unfold dropS at hx
  split at hx
  · have := h x hx; omega
  · rcases List.mem_or_eq_of_mem_set hx with h' | rfl
    · have := h x h'; omega
    · rw [List.getD_eq_getElem?_getD]
      cases hg : p.1[(e - 2).toNat]? with
      | none => simp; omega
      | some v =>
        have := h v (List.mem_of_getElem? hg)
        simp; omega
theorem sDrop_E (r t : List Int) (s : List Snp) (d : List Int) (e : Int) (hr : r.length = 24) (hd : d.length = 24) (he : e ≤ 25) (hb : ∀ x ∈ r, -1000000 ≤ x ∧ x ≤ 1000000) : E CX 141 [lImg r t s d, .int .i64 e] (lRows r t s d) = some { val := lImg r t s d, io := [rI (dropS (r, d) e).1, rI t, rSp s, rI (dropS (r, d) e).2] } := by
  refine E_fin Tryz.f141 _ an141 rfl rfl rfl Tryz.func141 rfl (by kernel_rfl) ?_
  by_cases c : e < 2
  · simp [go_sem, lImg, lRows, rI, rSp, dropS, c]
  · have hc : (e - 2).toNat < r.length := by omega
    have hc24 : (e - 2).toNat < 24 := by omega
    have hcd : (e - 2).toNat < d.length := by omega
    obtain ⟨v, gv⟩ : ∃ v, r[(e - 2).toNat] = v := ⟨_, rfl⟩
    have hv := hb v (by rw [← gv]; exact List.getElem_mem hc)
    have gd : r.getD (e - 2).toNat 0 = v := by rw [List.getD_eq_getElem?_getD, List.getElem?_eq_getElem hc, gv]; rfl
    have hset : (r.set (e - 2).toNat (v - 1)).getD (e - 2).toNat 0 = v - 1 := by rw [getD_set _ _ _ _ hc, if_pos rfl]
    have hds : dropS (r, d) e = (r.set (e - 2).toNat (v - 1), if v - 1 = 0 then d.set (e - 2).toNat 0 else d) := by
      unfold dropS
      simp only
      rw [if_neg c, gd, hset]
    rw [hds]
    have p0 : (2 : Int) ≤ e := by omega
    by_cases c2 : v - 1 = 0
    · have c3 : v = 1 := by omega
      subst c3
      simp [go_sem, lImg, lRows, rI, rSp, c, hr, hd, hc24, gv, p0, wrap_id (n := e - 2) (by omega), show IntKind.i64.wrap 0 = 0 by decide]
    · simp [go_sem, lImg, lRows, rI, rSp, c, c2, hr, hd, hc24, gv, p0, wrap_id (n := e - 2) (by omega), wrap_id (n := v - 1) (by omega)]
end Go.Proofs.YtndgpinhbffleaaGreat


namespace Go.Proofs.YtndgpinhbffleaaGreat
open Go
set_option maxRecDepth 100000
set_option maxHeartbeats 2000000
set_option linter.unusedSimpArgs false
set_option linter.unusedVariables false
/-- Answers of the reference: an image of rows of its own; with a code. -/
def resM (m : Img) : Res := { val := oImg m, own := oRowp m }
def resS (m : Img) (c : Int) : Res := { val := .tuple [oImg m, .int .i64 c], own := oRowp m }
theorem sRaise_E (r t : List Int) (s : List Snp) (d : List Int) (T : List Int) (hT : tabOK T = true) (hr : r.length = 24) (hb : ∀ x ∈ r, 0 ≤ x ∧ x ≤ 1000000) :
    E CX 146 [lImg r t s d, .sl 1 (T.map (.int .i64))] (lRows r t s d) = some { val := lImg r t s d, io := [rI ((clus T).foldl bump r), rI t, rSp s, rI d] } := by
  have e1 := sClusters_E T (by have := tabOK_len hT; omega) (fun x hx => tab_le' hT x hx)
  have hcl := clus_len T
  have h12 := tabOK_len hT
  have hcm : ∀ c ∈ clus T, 0 ≤ c ∧ c < 24 := fun c hc => tab_clus hT hc
  generalize clus T = cs at *
  refine E_fin Tryz.f146 _ an146 rfl rfl rfl Tryz.func146 rfl (by kernel_rfl) ?_
  simp [go_sem, lImg, lRows, rI, rSp, e1, hr]
  refine loop_for (fun X => fin CX _ _ X = _) cs (fun k (b : List Int) => b.length = 24 ∧ ∀ x ∈ b, 0 ≤ x ∧ x ≤ 1000000 + (k : Int)) (fun k b => ⟨SS [(2, .ptr [2] 0 0), (4, .ptr [4] 0 0), (5, .sl 1 (cs.map (.int .i64))), (6, .int .i64 k)], HS [([2], ⟨true, 26, 4, [.agg [.ref [0, 0] 0 24, .ref [0, 1] 0 t.length, .ref [0, 2] 0 s.length, .ref [0, 3] 0 d.length]], none⟩), ([4], ⟨true, 26, 4, [.agg [.nil, .nil, .nil, .nil]], none⟩), ([0, 0], rI b), ([0, 1], rI t), ([0, 2], rSp s), ([0, 3], rI d)]⟩)
    (fun q k b => (.exit 0, ⟨SS [(2, .ptr [2] 0 0), (4, .ptr [4] 0 0)], HS [([2], ⟨true, 26, 4, [.agg [.ref [0, 0] 0 24, .ref [0, 1] 0 t.length, .ref [0, 2] 0 s.length, .ref [0, 3] 0 d.length]], none⟩), ([4], ⟨true, 26, 4, [.agg [.nil, .nil, .nil, .nil]], none⟩), ([0, 0], rI (q.foldl bump b)), ([0, 1], rI t), ([0, 2], rSp s), ([0, 3], rI d)]⟩)) r ⟨hr, fun x hx => by have := hb x hx; omega⟩ ?_ ?_ ?_ ?_ ?_
  · simp [go_sem, rI, rSp]
  · rintro R k b c r' hk hy hd' ⟨hJ1, hJ2⟩ hR
    have hy := hy hk
    have hc2 := hcm c (by rw [← hy]; exact List.getElem_mem hk)
    have := hR (bump b c) ⟨by rw [bump_len]; exact hJ1, fun x hx => by have := bump_bd (c := c) hJ2 (by omega) x hx; omega⟩ (by simp)
    have hlt : c.toNat < b.length := by omega
    obtain ⟨v, gv⟩ : ∃ v, b[c.toNat] = v := ⟨_, rfl⟩
    have hv := hJ2 v (by rw [← gv]; exact List.getElem_mem hlt)
    have hb : bump b c = b.set c.toNat (v + 1) := by unfold bump; rw [List.getD_eq_getElem?_getD, List.getElem?_eq_getElem hlt, gv]; rfl
    rw [hb] at this
    simp [go_sem, rI, rSp] at this
    simp [go_sem, rI, rSp, hk, hy, hc2.1, hJ1, show c.toNat < 24 by omega, gv, wrap_id (n := v + 1) (by omega), wrap_id (n := (k : Int) + 1) (by omega)]
    exact this
  · intro b hJ; simp [go_sem, rI, rSp]
  · intro _; simp
  · simp [go_sem, rI, rSp]
theorem sRaiseT_E (r t : List Int) (s : List Snp) (d : List Int) (hT : tabOK t = true) (hr : r.length = 24) (hb : ∀ x ∈ r, 0 ≤ x ∧ x ≤ 1000000) :
    E CX 146 [lImg r t s d, .ref [0, 1] 0 t.length] (lRows r t s d) = some { val := lImg r t s d, io := [rI ((clus t).foldl bump r), rI t, rSp s, rI d] } := by
  have e1 := sClusters_E t (by have := tabOK_len hT; omega) (fun x hx => tab_le' hT x hx)
  have hcl := clus_len t
  have h12 := tabOK_len hT
  have hcm : ∀ c ∈ clus t, 0 ≤ c ∧ c < 24 := fun c hc => tab_clus hT hc
  generalize clus t = cs at *
  refine E_fin Tryz.f146 _ an146 rfl rfl rfl Tryz.func146 rfl (by kernel_rfl) ?_
  simp [go_sem, lImg, lRows, rI, rSp, e1, hr]
  refine loop_for (fun X => fin CX _ _ X = _) cs (fun k (b : List Int) => b.length = 24 ∧ ∀ x ∈ b, 0 ≤ x ∧ x ≤ 1000000 + (k : Int)) (fun k b => ⟨SS [(2, .ptr [2] 0 0), (4, .ptr [4] 0 0), (5, .sl 1 (cs.map (.int .i64))), (6, .int .i64 k)], HS [([2], ⟨true, 26, 4, [.agg [.ref [0, 0] 0 24, .ref [0, 1] 0 t.length, .ref [0, 2] 0 s.length, .ref [0, 3] 0 d.length]], none⟩), ([4], ⟨true, 26, 4, [.agg [.nil, .nil, .nil, .nil]], none⟩), ([0, 0], rI b), ([0, 1], rI t), ([0, 2], rSp s), ([0, 3], rI d)]⟩)
    (fun q k b => (.exit 0, ⟨SS [(2, .ptr [2] 0 0), (4, .ptr [4] 0 0)], HS [([2], ⟨true, 26, 4, [.agg [.ref [0, 0] 0 24, .ref [0, 1] 0 t.length, .ref [0, 2] 0 s.length, .ref [0, 3] 0 d.length]], none⟩), ([4], ⟨true, 26, 4, [.agg [.nil, .nil, .nil, .nil]], none⟩), ([0, 0], rI (q.foldl bump b)), ([0, 1], rI t), ([0, 2], rSp s), ([0, 3], rI d)]⟩)) r ⟨hr, fun x hx => by have := hb x hx; omega⟩ ?_ ?_ ?_ ?_ ?_
  · simp [go_sem, rI, rSp]
  · rintro R k b c r' hk hy hd' ⟨hJ1, hJ2⟩ hR
    have hy := hy hk
    have hc2 := hcm c (by rw [← hy]; exact List.getElem_mem hk)
    have := hR (bump b c) ⟨by rw [bump_len]; exact hJ1, fun x hx => by have := bump_bd (c := c) hJ2 (by omega) x hx; omega⟩ (by simp)
    have hlt : c.toNat < b.length := by omega
    obtain ⟨v, gv⟩ : ∃ v, b[c.toNat] = v := ⟨_, rfl⟩
    have hv := hJ2 v (by rw [← gv]; exact List.getElem_mem hlt)
    have hb : bump b c = b.set c.toNat (v + 1) := by unfold bump; rw [List.getD_eq_getElem?_getD, List.getElem?_eq_getElem hlt, gv]; rfl
    rw [hb] at this
    simp [go_sem, rI, rSp] at this
    simp [go_sem, rI, rSp, hk, hy, hc2.1, hJ1, show c.toNat < 24 by omega, gv, wrap_id (n := v + 1) (by omega), wrap_id (n := (k : Int) + 1) (by omega)]
    exact this
  · intro b hJ; simp [go_sem, rI, rSp]
  · intro _; simp
  · simp [go_sem, rI, rSp]
theorem refs_bd {m : Img} (P : NearP m) : ∀ x ∈ m.refs, -15 ≤ x ∧ x ≤ 15 := fun x hx => by have := P.refsI x hx; omega
theorem sWriteX_E (m : Img) (P : ImgP m) (g : Nat) (hg : g < m.tab.length) (v : Int) : E CX 90 [eImg m, .int .i64 g, .int .i64 v] [] = some (resS (writeS m g v).1 (writeS m g v).2) := by
  have e1 := sOwn_E m P.b
  have hb := tabOK_at P.tab.1 hg
  have hr := P.refs
  have hd := P.data
  have hbd := refs_bd P.toNearP
  obtain ⟨r, t, s, d⟩ := m
  simp only [eImg] at hb hr hd hg hbd e1
  obtain ⟨e, ge⟩ : ∃ e, t[g] = e := ⟨_, rfl⟩
  have hge : t.getD g 0 = e := by rw [List.getD_eq_getElem?_getD, List.getElem?_eq_getElem hg, ge]; rfl
  rw [hge] at hb
  have hw : writeS ⟨r, t, s, d⟩ g v = if 2 ≤ e ∧ r.getD (e - 2).toNat 0 = 1 then (⟨r, t, s, d.set (e - 2).toNat v⟩, 0) else
      if freeI r < 0 then (⟨r, t, s, d⟩, 7) else (⟨(dropS (r, d) e).1.set (freeI r).toNat 1, t.set g (2 + freeI r), s, (dropS (r, d) e).2.set (freeI r).toNat v⟩, 0) := by
    rw [← hge]; rfl
  rw [hw]
  by_cases h3 : 2 ≤ e ∧ r.getD (e - 2).toNat 0 = 1
  · rw [if_pos h3]
    have h5 : (e - 2).toNat < 24 := by omega
    have h5r : (e - 2).toNat < r.length := by omega
    have gq : r[(e - 2).toNat] = 1 := by
      have := h3.2
      rwa [List.getD_eq_getElem?_getD, List.getElem?_eq_getElem h5r] at this
    simp only [oImg, oRowp, hr, hd] at e1
    refine E_fin Tryz.f90 _ an90 rfl rfl rfl Tryz.func90 rfl (by kernel_rfl) ?_
    simp [go_sem, eImg, e1, hg, ge, h5, hr, hd, gq, h3.1, rI, rSp, resS, oImg, oRowp, wrap_id (n := e - 2) (by omega)]
  · rw [if_neg h3]
    have e2 := sFree_E r (by omega)
    have e3 := sDrop_E r t s d e hr hd (by omega) (fun x hx => by have := hbd x hx; omega)
    have hl := dropS_len (p := (r, d)) e
    have hfr := freeI_spec r
    generalize dropS (r, d) e = p at *
    simp only [hr, hd] at hl
    obtain ⟨l1, l2⟩ := hl
    generalize hf : freeI r = f at *
    simp only [lImg, lRows, hr, hd, rI, rSp] at e3
    simp only [oImg, oRowp, hr, hd, rI, rSp] at e1
    have cond : ∀ (X : Prop), (2 ≤ e → r.getD (e - 2).toNat 0 = 1 → X) → True := fun _ _ => trivial
    by_cases h4 : 2 ≤ e
    · have h5 : (e - 2).toNat < 24 := by omega
      have h5r : (e - 2).toNat < r.length := by omega
      obtain ⟨q, gq⟩ : ∃ q, r[(e - 2).toNat] = q := ⟨_, rfl⟩
      have hq : ¬ q = 1 := fun x => h3 ⟨h4, by rw [List.getD_eq_getElem?_getD, List.getElem?_eq_getElem h5r, gq]; exact x⟩
      by_cases h0 : f < 0
      · rw [if_pos h0]
        refine E_fin Tryz.f90 _ an90 rfl rfl rfl Tryz.func90 rfl (by kernel_rfl) ?_
        simp [go_sem, eImg, e1, e2, hg, ge, h5, hr, hd, gq, hq, h4, h0, rI, rSp, resS, oImg, oRowp, wrap_id (n := e - 2) (by omega)]
      · rw [if_neg h0]
        have f0 : 0 ≤ f := by omega
        have f24 : f.toNat < 24 := by
          rcases hfr with ⟨h, _⟩ | ⟨c, h1, h2, _⟩ <;> omega
        refine E_fin Tryz.f90 _ an90 rfl rfl rfl Tryz.func90 rfl (by kernel_rfl) ?_
        simp [go_sem, eImg, e1, e2, e3, hg, ge, h5, hr, hd, l1, l2, gq, hq, h4, h0, f0, f24, rI, rSp, resS, oImg, oRowp, wrap_id (n := e - 2) (by omega), wrap_id (n := 2 + f) (by omega)]
    · by_cases h0 : f < 0
      · rw [if_pos h0]
        refine E_fin Tryz.f90 _ an90 rfl rfl rfl Tryz.func90 rfl (by kernel_rfl) ?_
        simp [go_sem, eImg, e1, e2, hg, ge, hr, hd, h4, h0, rI, rSp, resS, oImg, oRowp]
      · rw [if_neg h0]
        have f0 : 0 ≤ f := by omega
        have f24 : f.toNat < 24 := by
          rcases hfr with ⟨h, _⟩ | ⟨c, h1, h2, _⟩ <;> omega
        refine E_fin Tryz.f90 _ an90 rfl rfl rfl Tryz.func90 rfl (by kernel_rfl) ?_
        simp [go_sem, eImg, e1, e2, e3, hg, ge, hr, hd, l1, l2, h4, h0, f0, f24, rI, rSp, resS, oImg, oRowp, wrap_id (n := 2 + f) (by omega)]
theorem sZeroX_E (m : Img) (P : ImgP m) (g : Nat) (hg : g < m.tab.length) : E CX 120 [eImg m, .int .i64 g] [] = some (resM (zeroS m g)) := by
  have e1 := sOwn_E m P.b
  have hb := tabOK_at P.tab.1 hg
  have hr := P.refs
  have hd := P.data
  have hbd := refs_bd P.toNearP
  obtain ⟨r, t, s, d⟩ := m
  simp only [eImg] at hb hr hd hg hbd e1
  obtain ⟨e, ge⟩ : ∃ e, t[g] = e := ⟨_, rfl⟩
  have hge : t.getD g 0 = e := by rw [List.getD_eq_getElem?_getD, List.getElem?_eq_getElem hg, ge]; rfl
  rw [hge] at hb
  have hw : zeroS ⟨r, t, s, d⟩ g = ⟨(dropS (r, d) e).1, t.set g 1, s, (dropS (r, d) e).2⟩ := by rw [← hge]; rfl
  rw [hw]
  have e3 := sDrop_E r t s d e hr hd (by omega) (fun x hx => by have := hbd x hx; omega)
  have hl := dropS_len (p := (r, d)) e
  generalize dropS (r, d) e = p at *
  simp only [hr, hd] at hl
  obtain ⟨l1, l2⟩ := hl
  simp only [lImg, lRows, hr, hd, rI, rSp] at e3
  simp only [oImg, oRowp, hr, hd, rI, rSp] at e1
  refine E_fin Tryz.f120 _ an120 rfl rfl rfl Tryz.func120 rfl (by kernel_rfl) ?_
  simp [go_sem, eImg, e1, e3, hg, ge, hr, hd, l1, l2, rI, rSp, resM, oImg, oRowp]
theorem dropsS_len : ∀ (q : List Int) (p : List Int × List Int), (q.foldl dropS p).1.length = p.1.length ∧ (q.foldl dropS p).2.length = p.2.length := by
  intro q
  induction q with
  | nil => intro p; exact ⟨rfl, rfl⟩
  | cons e q ih =>
    intro p
    simp only [List.foldl_cons]
    obtain ⟨h1, h2⟩ := ih (dropS p e)
    obtain ⟨h3, h4⟩ := dropS_len (p := p) e
    exact ⟨h1.trans h3, h2.trans h4⟩
theorem sResizeX_E (m : Img) (P : ImgP m) (N : Nat) (hN : N ≤ 12) : E CX 87 [eImg m, .int .i64 N] [] = some (resM (resizeS m N)) := by
  have e1 := sOwn_E m P.b
  have hr := P.refs
  have hd := P.data
  have ht := P.tab.1
  have ht12 := tabOK_len ht
  have hbd := refs_bd P.toNearP
  obtain ⟨r, t, s, d⟩ := m
  simp only [eImg] at hr hd ht ht12 hbd e1
  have hw : resizeS ⟨r, t, s, d⟩ N = ⟨((t.drop N).foldl dropS (r, d)).1, resz t N, s, ((t.drop N).foldl dropS (r, d)).2⟩ := rfl
  rw [hw]
  have e2 := sResize_E t N (by omega)
  have hl := dropsS_len (t.drop N) (r, d)
  simp only [hr, hd] at hl
  have hg : ∀ i (h : i < (t.drop N).length), ∃ h2 : N + i < t.length, t[N + i] = (t.drop N)[i] := fun i h => by
    rw [List.length_drop] at h
    exact ⟨by omega, by rw [List.getElem_drop]⟩
  have hx25 : ∀ e ∈ t.drop N, e ≤ 25 := fun e he => tab_le' ht e (List.mem_of_mem_drop he)
  have hlen : (t.drop N).length = t.length - N := List.length_drop
  generalize hxs : t.drop N = xs at *
  simp only [oImg, oRowp, hr, hd, rI, rSp] at e1
  refine E_fin Tryz.f87 _ an87 rfl rfl rfl Tryz.func87 rfl (by kernel_rfl) ?_
  simp [go_sem, eImg, e1]
  refine loop_for (fun X => fin CX _ _ X = _) xs (fun k (b : List Int × List Int) => b.1.length = 24 ∧ b.2.length = 24 ∧ ∀ x ∈ b.1, -(15 + (k : Int)) ≤ x ∧ x ≤ 15 + (k : Int)) (fun k b => ⟨SS [(1, .int .i64 N), (2, .ptr [2] 0 0), (4, .ptr [4] 0 0), (5, .int .i64 ((N : Int) + k))], HS [([2], ⟨true, 26, 4, [.agg [.ref [70] 0 24, .ref [71] 0 t.length, .ref [72] 0 s.length, .ref [73] 0 24]], none⟩), ([4], ⟨true, 26, 4, [.agg [.nil, .nil, .nil, .nil]], none⟩), ([70], rI b.1), ([71], rI t), ([72], rSp s), ([73], rI b.2)]⟩)
    (fun q k b => (.exit 0, ⟨SS [(1, .int .i64 N), (2, .ptr [2] 0 0), (4, .ptr [4] 0 0)], HS [([2], ⟨true, 26, 4, [.agg [.ref [70] 0 24, .ref [71] 0 t.length, .ref [72] 0 s.length, .ref [73] 0 24]], none⟩), ([4], ⟨true, 26, 4, [.agg [.nil, .nil, .nil, .nil]], none⟩), ([70], rI (q.foldl dropS b).1), ([71], rI t), ([72], rSp s), ([73], rI (q.foldl dropS b).2)]⟩)) (r, d) ⟨hr, hd, fun x hx => by have := hbd x hx; omega⟩ ?_ ?_ ?_ ?_ ?_
  · simp [go_sem, rI, rSp]
  · rintro R k ⟨b1, b2⟩ e q hk hy hd' ⟨hJ1, hJ2, hJ3⟩ hR
    simp only at hJ1 hJ2 hJ3
    have hy := hy hk
    obtain ⟨g1, g2⟩ := hg k hk
    rw [hy] at g2
    have he := hx25 e (by rw [← hy]; exact List.getElem_mem hk)
    have hk12 : k < 13 := by omega
    have e3 := sDrop_E b1 t s b2 e hJ1 hJ2 he (fun x hx => by have := hJ3 x hx; omega)
    have hbd2 := dropS_bd (p := (b1, b2)) (e := e) hJ3 (by omega)
    have hl2 := dropS_len (p := (b1, b2)) e
    have := hR (dropS (b1, b2) e) ⟨by rw [hl2.1]; exact hJ1, by rw [hl2.2]; exact hJ2, fun x hx => by have := hbd2 x hx; omega⟩ (by simp)
    generalize dropS (b1, b2) e = p at *
    simp only [lImg, lRows, hJ1, hJ2, rI, rSp] at e3
    simp [go_sem, rI, rSp] at this
    simp only [← Int.add_assoc] at this
    have gi : ((N : Int) + k).toNat = N + k := by omega
    simp [go_sem, rI, rSp, e3, gi, g1, g2, show (0 : Int) ≤ (N : Int) + k by omega, show (N : Int) + k < t.length by omega, wrap_id (n := (N : Int) + (k : Int) + 1) (by omega)]
    exact this
  · intro b hJ
    have : ¬ (N : Int) + (xs.length : Int) < t.length := by omega
    simp [go_sem, rI, rSp, this]
  · intro _; simp
  · simp [go_sem, e2, rI, rSp, resM, oImg, oRowp, hl.1, hl.2]
end Go.Proofs.YtndgpinhbffleaaGreat


namespace Go.Proofs.YtndgpinhbffleaaGreat
open Go
set_option maxRecDepth 100000
set_option maxHeartbeats 2000000
set_option linter.unusedSimpArgs false
set_option linter.unusedVariables false
theorem sCreateX_E (m : Img) (P : ImgP m) (x : Tx) (hx : x.length ≤ 1099511627776) : E CX 93 [eImg m, .str x] [] = some (resS (createA m x).1 (createA m x).2) := by
  have e1 := sOwn_E m P.b
  have e2 := sName_E x hx
  have e3 := sFind_E m x (by have := P.snaps; omega)
  have e4 := sRaiseT_E m.refs m.tab m.snaps m.data P.tab.1 P.refs (fun x hx => by have := P.refsI x hx; omega)
  have hz : createA m x = if snameOK x = false then (m, 12) else if 0 ≤ findA m x then (m, 8) else if m.snaps.length = 3 then (m, 6) else (createS m x, 0) := by
    unfold createA; rw [create_same P]
  rw [hz]
  have hr := P.refs
  have hd := P.data
  have ht := P.tab.1
  have ht12 := tabOK_len ht
  have hsn := P.snaps
  have hbl := bumps_len (clus m.tab) m.refs
  have hcs : createS m x = ⟨(clus m.tab).foldl bump m.refs, m.tab, m.snaps ++ [⟨x, m.tab⟩], m.data⟩ := rfl
  rw [hcs]
  generalize (clus m.tab).foldl bump m.refs = b at *
  obtain ⟨r, t, s, d⟩ := m
  simp only [eImg] at e1 e3 e4 hr hd ht12 hsn hbl ⊢
  generalize findA ⟨r, t, s, d⟩ x = k at *
  rw [hr] at hbl
  simp only [lImg, lRows, hr, hd, rI, rSp] at e4
  simp only [oImg, oRowp, hr, hd, rI, rSp] at e1
  have h3b : ((s.length : Int) == 3) = decide (s.length = 3) := by
    have := beq_nat s.length 3; simpa using this
  cases c2 : snameOK x
  · rw [c2] at e2
    refine E_fin Tryz.f93 _ an93 rfl rfl rfl Tryz.func93 rfl (by kernel_rfl) ?_
    simp [go_sem, eImg, e1, e2, resS, oImg, oRowp, hr, hd, rI, rSp]
  rw [c2] at e2
  rw [if_neg (by simp)]
  by_cases c3 : 0 ≤ k
  · rw [if_pos c3]
    refine E_fin Tryz.f93 _ an93 rfl rfl rfl Tryz.func93 rfl (by kernel_rfl) ?_
    simp [go_sem, eImg, e1, e2, e3, c3, resS, oImg, oRowp, hr, hd, rI, rSp]
  rw [if_neg c3]
  by_cases c4 : s.length = 3
  · rw [if_pos c4]
    refine E_fin Tryz.f93 _ an93 rfl rfl rfl Tryz.func93 rfl (by kernel_rfl) ?_
    simp [go_sem, eImg, e1, e2, e3, c3, c4, resS, oImg, oRowp, hr, hd, rI, rSp]
  rw [if_neg c4]
  have c4' : ¬ (s.length : Int) = 3 := by omega
  refine E_fin Tryz.f93 _ an93 rfl rfl rfl Tryz.func93 rfl (by kernel_rfl) ?_
  simp [go_sem, eImg, eSnp, e1, e2, e3, e4, c3, c4, c4', h3b, resS, oImg, oRowp, hr, hd, hbl, rI, rSp, show t.length ≤ 1073741824 by omega, show s.length + 1 ≤ 1073741824 by omega]
theorem snap_mem {m : Img} (P : ImgP m) {k : Nat} (hk : k < m.snaps.length) : ∃ y, m.snaps[k] = y ∧ snapAt m k = y.tab ∧ tabOK y.tab = true := by
  refine ⟨_, rfl, ?_, ?_⟩
  · simp [snapAt, List.getD_eq_getElem?_getD, List.getElem?_eq_getElem hk]
  · have := (P.snap hk).1
    simpa [snapAt, List.getD_eq_getElem?_getD, List.getElem?_eq_getElem hk] using this
theorem sDeleteX_E (m : Img) (P : ImgP m) (x : Tx) : E CX 94 [eImg m, .str x] [] = some (resS (deleteA m x).1 (deleteA m x).2) := by
  have e1 := sOwn_E m P.b
  have e3 := sFind_E m x (by have := P.snaps; omega)
  have hr := P.refs
  have hd := P.data
  have ht12 := tabOK_len P.tab.1
  have hsn := P.snaps
  have hbd := refs_bd P.toNearP
  rcases findA_spec m x with ⟨h1, _⟩ | ⟨k, h1, h2, _⟩
  · have hz : deleteA m x = (m, 5) := by unfold deleteA; rw [h1]; rfl
    rw [hz]
    rw [h1] at e3
    obtain ⟨r, t, s, d⟩ := m
    simp only [eImg, oImg, oRowp, rI, rSp] at e1 e3 hr hd
    simp only [hr, hd] at e1
    have tk1 : List.take 24 (r.map (AV.int .i64)) = r.map (AV.int .i64) := List.take_of_length_le (by simp [hr])
    have tk2 : List.take 24 (d.map (AV.int .i64)) = d.map (AV.int .i64) := List.take_of_length_le (by simp [hd])
    refine E_fin Tryz.f94 _ an94 rfl rfl rfl Tryz.func94 rfl (by kernel_rfl) ?_
    simp [go_sem, eImg, e1, e3, tk1, tk2, resS, oImg, oRowp, hr, hd, rI, rSp]
  · have hz : deleteA m x = (deleteS m k, 0) := by
      unfold deleteA
      rw [h1, if_neg (by omega), Int.toNat_natCast, delete_same P h2]
    rw [hz]
    rw [h1] at e3
    obtain ⟨y, gy, hat, hy⟩ := snap_mem P h2
    have hy12 := tabOK_len hy
    have hds : deleteS m k = ⟨((snapAt m k).foldl dropS (m.refs, m.data)).1, m.tab, m.snaps.eraseIdx k, ((snapAt m k).foldl dropS (m.refs, m.data)).2⟩ := rfl
    rw [hds, hat]
    have hl := dropsS_len y.tab (m.refs, m.data)
    simp only [hr, hd] at hl
    have hx25 : ∀ e ∈ y.tab, e ≤ 25 := fun e he => tab_le' hy e he
    obtain ⟨r, t, s, d⟩ := m
    simp only [eImg, oImg, oRowp, rI, rSp] at e1 e3 hr hd ht12 hsn hbd h2 gy
    simp only [hr, hd] at e1
    have her : s.eraseIdx k = s.take k ++ s.drop (k + 1) := List.eraseIdx_eq_take_drop_succ s k
    have hel : (s.eraseIdx k).length = s.length - 1 := by rw [List.length_eraseIdx, if_pos h2]
    generalize hys : y.tab = ys at *
    have tk1 : List.take 24 (r.map (AV.int .i64)) = r.map (AV.int .i64) := List.take_of_length_le (by simp [hr])
    have tk2 : List.take 24 (d.map (AV.int .i64)) = d.map (AV.int .i64) := List.take_of_length_le (by simp [hd])
    refine E_fin Tryz.f94 _ an94 rfl rfl rfl Tryz.func94 rfl (by kernel_rfl) ?_
    simp [go_sem, eImg, e1, e3, tk1, tk2, hr, hd, show ¬ (k : Int) < 0 by omega]
    refine loop_for (fun X => fin CX _ _ X = _) ys (fun n (b : List Int × List Int) => b.1.length = 24 ∧ b.2.length = 24 ∧ ∀ x ∈ b.1, -(15 + (n : Int)) ≤ x ∧ x ≤ 15 + (n : Int)) (fun n b => ⟨SS [(2, .ptr [2] 0 0), (4, .ptr [4] 0 0), (6, .int .i64 k), (7, .int .i64 n)], HS [([2], ⟨true, 26, 4, [.agg [.ref [70] 0 24, .ref [71] 0 t.length, .ref [72] 0 s.length, .ref [73] 0 24]], none⟩), ([4], ⟨true, 26, 4, [.agg [.nil, .nil, .nil, .nil]], none⟩), ([70], rI b.1), ([71], rI t), ([72], rSp s), ([73], rI b.2)]⟩)
      (fun q n b => (.exit 0, ⟨SS [(2, .ptr [2] 0 0), (4, .ptr [4] 0 0), (6, .int .i64 k)], HS [([2], ⟨true, 26, 4, [.agg [.ref [70] 0 24, .ref [71] 0 t.length, .ref [72] 0 s.length, .ref [73] 0 24]], none⟩), ([4], ⟨true, 26, 4, [.agg [.nil, .nil, .nil, .nil]], none⟩), ([70], rI (q.foldl dropS b).1), ([71], rI t), ([72], rSp s), ([73], rI (q.foldl dropS b).2)]⟩)) (r, d) ⟨hr, hd, fun x hx => by have := hbd x hx; omega⟩ ?_ ?_ ?_ ?_ ?_
    · simp [go_sem, rI, rSp]
    · rintro R n ⟨b1, b2⟩ e q hn hw hd' ⟨hJ1, hJ2, hJ3⟩ hR
      simp only at hJ1 hJ2 hJ3
      have hw := hw hn
      have he := hx25 e (by rw [← hw]; exact List.getElem_mem hn)
      have e4 := sDrop_E b1 t s b2 e hJ1 hJ2 he (fun x hx => by have := hJ3 x hx; omega)
      have hbd2 := dropS_bd (p := (b1, b2)) (e := e) hJ3 (by omega)
      have hl2 := dropS_len (p := (b1, b2)) e
      have := hR (dropS (b1, b2) e) ⟨by rw [hl2.1]; exact hJ1, by rw [hl2.2]; exact hJ2, fun x hx => by have := hbd2 x hx; omega⟩ (by simp)
      generalize dropS (b1, b2) e = p at *
      simp only [lImg, lRows, hJ1, hJ2, rI, rSp] at e4
      simp [go_sem, rI, rSp] at this
      simp [go_sem, rI, rSp, eSnp, e4, h2, gy, hys, hn, hw, wrap_id (n := (n : Int) + 1) (by omega)]
      exact this
    · intro b hJ
      simp [go_sem, rI, rSp, eSnp, h2, gy, hys]
    · intro _; simp
    · have w1 : IntKind.i64.wrap ((k : Int) + 1) = (k : Int) + 1 := wrap_id (by omega)
      have k1 : ((k : Int) + 1).toNat = k + 1 := by omega
      simp [go_sem, rI, rSp, resS, oImg, oRowp, hl.1, hl.2, h2, w1, k1, her, show k ≤ s.length by omega, show (k : Int) ≤ s.length by omega, show k + 1 ≤ s.length by omega, show (k : Int) + 1 ≤ s.length by omega, show (0 : Int) ≤ (k : Int) + 1 by omega, show k ≤ 1073741824 by omega, show k + (s.length - (k + 1)) ≤ 1073741824 by omega, show s.length ≤ 1073741824 by omega]
theorem sRevertX_E (m : Img) (P : ImgP m) (x : Tx) : E CX 95 [eImg m, .str x] [] = some (resS (revertA m x).1 (revertA m x).2) := by
  have e1 := sOwn_E m P.b
  have e3 := sFind_E m x (by have := P.snaps; omega)
  have hr := P.refs
  have hd := P.data
  have ht := P.tab.1
  have ht12 := tabOK_len P.tab.1
  have hsn := P.snaps
  have hrI := P.refsI
  rcases findA_spec m x with ⟨h1, _⟩ | ⟨k, h1, h2, _⟩
  · have hz : revertA m x = (m, 5) := by unfold revertA; rw [h1]; rfl
    rw [hz]
    rw [h1] at e3
    obtain ⟨r, t, s, d⟩ := m
    simp only [eImg, oImg, oRowp, rI, rSp] at e1 e3 hr hd
    simp only [hr, hd] at e1
    have tk1 : List.take 24 (r.map (AV.int .i64)) = r.map (AV.int .i64) := List.take_of_length_le (by simp [hr])
    have tk2 : List.take 24 (d.map (AV.int .i64)) = d.map (AV.int .i64) := List.take_of_length_le (by simp [hd])
    refine E_fin Tryz.f95 _ an95 rfl rfl rfl Tryz.func95 rfl (by kernel_rfl) ?_
    simp [go_sem, eImg, e1, e3, tk1, tk2, resS, oImg, oRowp, hr, hd, rI, rSp]
  · have hz : revertA m x = (revertS m k, 0) := by
      unfold revertA
      rw [h1, if_neg (by omega), Int.toNat_natCast, revert_same P h2]
    rw [hz]
    rw [h1] at e3
    obtain ⟨y, gy, hat, hy⟩ := snap_mem P h2
    have hy12 := tabOK_len hy
    have hds : revertS m k = ⟨(m.tab.foldl dropS ((clus (snapAt m k)).foldl bump m.refs, m.data)).1, snapAt m k, m.snaps, (m.tab.foldl dropS ((clus (snapAt m k)).foldl bump m.refs, m.data)).2⟩ := rfl
    rw [hds, hat]
    have e5 := sRaise_E m.refs m.tab m.snaps m.data y.tab hy hr (fun x hx => by have := hrI x hx; omega)
    have hbl := bumps_len (clus y.tab) m.refs
    have hcl := clus_len y.tab
    have hbb := bumps_bd (clus y.tab) m.refs 15 (fun x hx => hrI x hx) (by omega)
    generalize (clus y.tab).foldl bump m.refs = r1 at *
    rw [hr] at hbl
    have hl := dropsS_len m.tab (r1, m.data)
    simp only [hbl, hd] at hl
    have hx25 : ∀ e ∈ m.tab, e ≤ 25 := fun e he => tab_le' ht e he
    obtain ⟨r, t, s, d⟩ := m
    simp only [eImg, oImg, oRowp, rI, rSp, lImg, lRows] at e1 e3 e5 hr hd ht12 hsn h2 gy hl
    simp only [hr, hd] at e1 e5
    generalize hys : y.tab = ys at *
    have tk1 : List.take 24 (r.map (AV.int .i64)) = r.map (AV.int .i64) := List.take_of_length_le (by simp [hr])
    have tk2 : List.take 24 (d.map (AV.int .i64)) = d.map (AV.int .i64) := List.take_of_length_le (by simp [hd])
    refine E_fin Tryz.f95 _ an95 rfl rfl rfl Tryz.func95 rfl (by kernel_rfl) ?_
    simp [go_sem, eImg, eSnp, e1, e3, e5, tk1, tk2, hr, hd, h2, gy, hys, show ¬ (k : Int) < 0 by omega]
    refine loop_for (fun X => fin CX _ _ X = _) t (fun n (b : List Int × List Int) => b.1.length = 24 ∧ b.2.length = 24 ∧ ∀ x ∈ b.1, -(100 + (n : Int)) ≤ x ∧ x ≤ 100 + (n : Int)) (fun n b => ⟨SS [(2, .ptr [2] 0 0), (4, .ptr [4] 0 0), (6, .int .i64 k), (7, .int .i64 n)], HS [([2], ⟨true, 26, 4, [.agg [.ref [70] 0 24, .ref [71] 0 t.length, .ref [72] 0 s.length, .ref [73] 0 24]], none⟩), ([4], ⟨true, 26, 4, [.agg [.nil, .nil, .nil, .nil]], none⟩), ([70], rI b.1), ([71], rI t), ([72], rSp s), ([73], rI b.2)]⟩)
      (fun q n b => (.exit 0, ⟨SS [(2, .ptr [2] 0 0), (4, .ptr [4] 0 0), (6, .int .i64 k)], HS [([2], ⟨true, 26, 4, [.agg [.ref [70] 0 24, .ref [71] 0 t.length, .ref [72] 0 s.length, .ref [73] 0 24]], none⟩), ([4], ⟨true, 26, 4, [.agg [.nil, .nil, .nil, .nil]], none⟩), ([70], rI (q.foldl dropS b).1), ([71], rI t), ([72], rSp s), ([73], rI (q.foldl dropS b).2)]⟩)) (r1, d) ⟨hbl, hd, fun x hx => by have := hbb x hx; omega⟩ ?_ ?_ ?_ ?_ ?_
    · simp [go_sem, rI, rSp]
    · rintro R n ⟨b1, b2⟩ e q hn hw hd' ⟨hJ1, hJ2, hJ3⟩ hR
      simp only at hJ1 hJ2 hJ3
      have hw := hw hn
      have he := hx25 e (by rw [← hw]; exact List.getElem_mem hn)
      have e4 := sDrop_E b1 t s b2 e hJ1 hJ2 he (fun x hx => by have := hJ3 x hx; omega)
      have hbd2 := dropS_bd (p := (b1, b2)) (e := e) hJ3 (by omega)
      have hl2 := dropS_len (p := (b1, b2)) e
      have := hR (dropS (b1, b2) e) ⟨by rw [hl2.1]; exact hJ1, by rw [hl2.2]; exact hJ2, fun x hx => by have := hbd2 x hx; omega⟩ (by simp)
      generalize dropS (b1, b2) e = p at *
      simp only [lImg, lRows, hJ1, hJ2, rI, rSp] at e4
      simp [go_sem, rI, rSp] at this
      simp [go_sem, rI, rSp, e4, hn, hw, wrap_id (n := (n : Int) + 1) (by omega)]
      exact this
    · intro b hJ
      simp [go_sem, rI, rSp]
    · intro _; simp
    · simp [go_sem, rI, rSp, eSnp, resS, oImg, oRowp, hl.1, hl.2, h2, gy, hys, show ys.length ≤ 1073741824 by omega]
end Go.Proofs.YtndgpinhbffleaaGreat


namespace Go.Proofs.YtndgpinhbffleaaGreat
open Go
set_option maxRecDepth 100000
set_option maxHeartbeats 4000000
set_option linter.unusedSimpArgs false
set_option linter.unusedVariables false
/-- An answer that is an image by value, and a code. -/
def resE (m : Img) (c : Int) : Res := { val := .tuple [eImg m, .int .i64 c] }
theorem sWriteCluster_E (m : Img) (B : ImgB m) (g v : Int) : E CX 35 [eImg m, .int .i64 g, .int .i64 v] [] = some (if imgOK m then resE (writeA m g v).1 (writeA m g v).2 else resBad 1) := by
  have e1 := sImageOK_E m B
  cases c1 : imgOK m
  · rw [c1] at e1
    simp only [eImg] at e1
    refine E_fin Tryz.f35 _ an35 rfl rfl rfl Tryz.func35 rfl (by kernel_rfl) ?_
    simp [go_sem, eImg, e1, resBad]
  rw [c1] at e1
  have P := imgP c1
  have e2 := sOwn_E m B
  have e3 := l01In_E g 0 ((m.tab.length : Int) - 1)
  have e4 := sInt_E v
  have hB := B.tab
  cases c2 : inn g 0 ((m.tab.length : Int) - 1)
  · rw [c2] at e3
    have hz : writeA m g v = (m, 4) := by simp [writeA, c2]
    rw [hz]
    simp only [eImg, oImg, oRowp, rI, rSp] at e1 e2
    refine E_fin Tryz.f35 _ an35 rfl rfl rfl Tryz.func35 rfl (by kernel_rfl) ?_
    simp [go_sem, eImg, e1, e2, e3, resE, wrap_id (n := (m.tab.length : Int) - 1) (by omega)]
  rw [c2] at e3
  cases c3 : isNum v
  · rw [c3] at e4
    have hz : writeA m g v = (m, 4) := by simp [writeA, c2, c3]
    rw [hz]
    simp only [eImg, oImg, oRowp, rI, rSp] at e1 e2
    refine E_fin Tryz.f35 _ an35 rfl rfl rfl Tryz.func35 rfl (by kernel_rfl) ?_
    simp [go_sem, eImg, e1, e2, e3, e4, resE, wrap_id (n := (m.tab.length : Int) - 1) (by omega)]
  rw [c3] at e4
  obtain ⟨hg, hg0⟩ := inn_lt c2
  have e5 := sWriteX_E m P g.toNat hg v
  rw [Int.toNat_of_nonneg hg0] at e5
  have hz : writeA m g v = writeS m g.toNat v := by
    rw [write_same P hg]
    simp [writeA, c2, c3]
  rw [hz]
  generalize writeS m g.toNat v = X at *
  obtain ⟨K, c⟩ := X
  simp only [eImg, resS, oImg, oRowp, rI, rSp] at e1 e5
  refine E_fin Tryz.f35 _ an35 rfl rfl rfl Tryz.func35 rfl (by kernel_rfl) ?_
  simp [go_sem, eImg, e1, e3, e4, e5, resE, wrap_id (n := (m.tab.length : Int) - 1) (by omega)]
theorem sResizeImage_E (m : Img) (B : ImgB m) (n : Int) : E CX 32 [eImg m, .int .i64 n] [] = some (if imgOK m then resE (resizeA m n).1 (resizeA m n).2 else resBad 1) := by
  have e1 := sImageOK_E m B
  cases c1 : imgOK m
  · rw [c1] at e1
    simp only [eImg] at e1
    refine E_fin Tryz.f32 _ an32 rfl rfl rfl Tryz.func32 rfl (by kernel_rfl) ?_
    simp [go_sem, eImg, e1, resBad]
  rw [c1] at e1
  have P := imgP c1
  have e2 := sOwn_E m B
  have e3 := l01In_E n 0 12
  cases c2 : inn n 0 12
  · rw [c2] at e3
    have hz : resizeA m n = (m, 4) := by simp [resizeA, c2]
    rw [hz]
    simp only [eImg, oImg, oRowp, rI, rSp] at e1 e2
    refine E_fin Tryz.f32 _ an32 rfl rfl rfl Tryz.func32 rfl (by kernel_rfl) ?_
    simp [go_sem, eImg, e1, e2, e3, resE]
  rw [c2] at e3
  have hn : 0 ≤ n ∧ n ≤ 12 := by simpa [inn] using c2
  have e5 := sResizeX_E m P n.toNat (by omega)
  rw [Int.toNat_of_nonneg hn.1, resize_same P] at e5
  have hz : resizeA m n = (mend { m with tab := resz m.tab n.toNat }, 0) := by simp [resizeA, c2]
  rw [hz]
  generalize mend { m with tab := resz m.tab n.toNat } = K at *
  simp only [eImg, resM, oImg, oRowp, rI, rSp] at e1 e5
  refine E_fin Tryz.f32 _ an32 rfl rfl rfl Tryz.func32 rfl (by kernel_rfl) ?_
  simp [go_sem, eImg, e1, e3, e5, resE]
end Go.Proofs.YtndgpinhbffleaaGreat


namespace Go.Proofs.YtndgpinhbffleaaGreat
open Go
set_option maxRecDepth 100000
set_option maxHeartbeats 4000000
set_option linter.unusedSimpArgs false
set_option linter.unusedVariables false
theorem writeLaw_bad (m : Img) (g v : Int) (c : Int) (B : ImgB m) (h1 : ¬ szI 1048576 m < 0) (e1 : E CX 52 [eImg m, .int .i64 1048576] [] = some { val := .int .i64 (szI 1048576 m) }) (hb : szMk m ≤ 1048576)
    (e5 : E CX 35 [eImg m, .int .i64 g, .int .i64 v] [] = some (resBad c)) (e6 : E CX 24 [eImg m, .int .i64 g, .int .i64 v] [] = some (resBad c)) : E CX 13 [eImg m, .int .i64 g, .int .i64 v] [] = some { val := .bool true } := by
  have e3 := toImage_S m B
  have e8 := eqImage_S m B
  have e10 := markImage_S m (by omega) B.snaps
  have e7 := eqImage_S ⟨[], [], [], []⟩ ⟨by simp, by simp, by simp, by simp, by simp, by simp⟩
  have e12 := markImage_bad
  have e13 := heldImage_E ⟨[], [], [], []⟩ (by simp [szMk, szSn, szTN])
  have n2 : ¬ 1 + szMk m < 0 := by unfold szMk; omega
  generalize subS m.snaps = sb at e3 e10
  simp only [eImg, oImg, rI, rSo, resBad, mkImg, mkSn, upI, szMk, szSn, szTN, mkTN, List.map_nil, List.length_nil, List.range_zero] at e1 e3 e5 e6 e7 e8 e10 e13 n2
  simp at e13
  refine E_fin Tryz.f13 _ an13 rfl rfl rfl Tryz.func13 rfl (by kernel_rfl) ?_
  simp [go_sem, eImg, e1, e3, e5, e6, e7, e8, e10, e12, e13, h1, n2]
theorem writeLaw_none (m : Img) (g v : Int) (r t d : List Int) (c : Int) (B : ImgB m) (h1 : ¬ szI 1048576 m < 0) (e1 : E CX 52 [eImg m, .int .i64 1048576] [] = some { val := .int .i64 (szI 1048576 m) }) (hb : szMk m ≤ 1048576) (BK : ImgB ⟨r, t, [], d⟩) (hK : 1 + szMk ⟨r, t, [], d⟩ ≤ 1099511627776)
    (e5 : E CX 35 [eImg m, .int .i64 g, .int .i64 v] [] = some (resE ⟨r, t, [], d⟩ c)) (e6 : E CX 24 [eImg m, .int .i64 g, .int .i64 v] [] = some (resI ⟨r, t, [], d⟩ c)) : E CX 13 [eImg m, .int .i64 g, .int .i64 v] [] = some { val := .bool true } := by
  have e3 := toImage_S m B
  have e8 := eqImage_S m B
  have e10 := markImage_S m (by omega) B.snaps
  have e7 := eqImage_S _ BK
  have e12 := markImage_none r t d hK
  have e13 := heldImage_E _ hK
  have n2 : ¬ 1 + szMk m < 0 := by unfold szMk; omega
  have n3 : ¬ 1 + szMk ⟨r, t, [], d⟩ < 0 := by unfold szMk; omega
  generalize subS m.snaps = sb at e3 e10
  generalize szMk m = zm at *
  generalize szMk ⟨r, t, [], d⟩ = zk at *
  simp only [eImg, oImg, rI, rSo, resE, resI, if_true, oImgN, oRowsN, mkImg, mkSn, mkTN, List.map_nil] at e1 e3 e5 e6 e7 e8 e10 e12 e13
  refine E_fin Tryz.f13 _ an13 rfl rfl rfl Tryz.func13 rfl (by kernel_rfl) ?_
  simp [go_sem, eImg, e1, e3, e5, e6, e7, e8, e10, e12, e13, h1, n2, n3, upI_length]
theorem writeLaw_some (m K : Img) (g v : Int) (c : Int) (B : ImgB m) (h1 : ¬ szI 1048576 m < 0) (e1 : E CX 52 [eImg m, .int .i64 1048576] [] = some { val := .int .i64 (szI 1048576 m) }) (hb : szMk m ≤ 1048576) (BK : ImgB K) (hK : 1 + szMk K ≤ 1099511627776) (hs : K.snaps ≠ [])
    (e5 : E CX 35 [eImg m, .int .i64 g, .int .i64 v] [] = some (resE K c)) (e6 : E CX 24 [eImg m, .int .i64 g, .int .i64 v] [] = some (resI K c)) : E CX 13 [eImg m, .int .i64 g, .int .i64 v] [] = some { val := .bool true } := by
  have e3 := toImage_S m B
  have e8 := eqImage_S m B
  have e10 := markImage_S m (by omega) B.snaps
  have e7 := eqImage_S _ BK
  have e12 := markImage_E K hK BK.snaps
  have e13 := heldImage_E _ hK
  have n2 : ¬ 1 + szMk m < 0 := by unfold szMk; omega
  have n3 : ¬ 1 + szMk K < 0 := by unfold szMk; omega
  have l1 : (mkImg K).refs.length = K.refs.length := by simp [mkImg, upI_length]
  have l2 : (mkImg K).tab.length = K.tab.length := by simp [mkImg, upI_length]
  have l3 : (mkImg K).snaps.length = K.snaps.length := by simp [mkImg, mkSn_length]
  have l4 : (mkImg K).data.length = K.data.length := by simp [mkImg, upI_length]
  have t1 : List.take K.refs.length ((mkImg K).refs.map (AV.int .i64)) = (mkImg K).refs.map (AV.int .i64) := List.take_of_length_le (by simp [l1])
  have t2 : List.take K.tab.length ((mkImg K).tab.map (AV.int .i64)) = (mkImg K).tab.map (AV.int .i64) := List.take_of_length_le (by simp [l2])
  have t3 : List.take K.snaps.length ((mkImg K).snaps.map eSnp) = (mkImg K).snaps.map eSnp := List.take_of_length_le (by simp [l3])
  have t4 : List.take K.data.length ((mkImg K).data.map (AV.int .i64)) = (mkImg K).data.map (AV.int .i64) := List.take_of_length_le (by simp [l4])
  generalize subS m.snaps = sb at e3 e10
  generalize szMk m = zm at *
  generalize szMk K = zk at *
  rw [if_neg hs, if_neg hs] at e12
  unfold resI at e6
  rw [if_neg hs] at e6
  generalize mkImg m = MM at *
  generalize mkImg K = MK at *
  simp only [eImg, oImg, rI, rSo, rSn, oRows, resE] at e1 e3 e5 e6 e7 e8 e10 e12 e13
  refine E_fin Tryz.f13 _ an13 rfl rfl rfl Tryz.func13 rfl (by kernel_rfl) ?_
  simp [go_sem, eImg, e1, e3, e5, e6, e7, e8, e10, e12, e13, h1, n2, n3, l1, l2, l3, l4, t1, t2, t3, t4, eSnp]
theorem writeLaw_E (m : Img) (g v : Int) (F : FitI m) : E CX 13 [eImg m, .int .i64 g, .int .i64 v] [] = some { val := .bool true } := by
  have e1 := szImage_E m 1048576 (by omega) F
  by_cases h1 : szI 1048576 m < 0
  · simp only [eImg] at e1
    refine E_fin Tryz.f13 _ an13 rfl rfl rfl Tryz.func13 rfl (by kernel_rfl) ?_
    simp [go_sem, eImg, e1, h1]
  obtain ⟨B, hb⟩ := szI_bound (by omega) F (show 0 ≤ szI 1048576 m by omega)
  have e5 := sWriteCluster_E m B g v
  have e6 := writeCluster_E m B g v
  cases c : imgOK m
  · rw [c] at e5 e6
    exact writeLaw_bad m g v _ B h1 e1 hb e5 e6
  · rw [c] at e5 e6
    simp only [if_true] at e5 e6
    have P := (imgP (writeA_ok c g v)).toNearP
    have hK := P.szMk
    generalize writeA m g v = X at *
    obtain ⟨⟨r, t, s, d⟩, cd⟩ := X
    simp only at e5 e6 P hK
    by_cases hs : s = []
    · subst hs
      exact writeLaw_none m g v r t d cd B h1 e1 hb P.b (by omega) e5 e6
    · exact writeLaw_some m _ g v cd B h1 e1 hb P.b (by omega) hs e5 e6
end Go.Proofs.YtndgpinhbffleaaGreat


namespace Go.Proofs.YtndgpinhbffleaaGreat
open Go
set_option maxRecDepth 100000
theorem told_ints : ∀ bs, Typed Tryz.prog 23 bs → ∃ x : List Int, mkVal (tagg Tryz.prog 23) bs = .sl 1 (x.map (.int .i64)) ∧ x.length ≤ top := by
  intro bs h
  obtain ⟨x, e, w, q⟩ := typed_list Tryz.underlying23 told_int h
  rw [cells_int] at e
  cases e
  exact ⟨x, by rw [show tagg Tryz.prog 23 = false by kernel_rfl]; rfl, w⟩
theorem told_Snap : ∀ bs, Typed Tryz.prog 167 bs → ∃ x : Snp, mkVal (tagg Tryz.prog 167) bs = eSnp x ∧ x.name.length ≤ top ∧ x.tab.length ≤ top := by
  intro bs h
  obtain ⟨hl, hf⟩ := typed_strct Tryz.underlying167 h
  rw [show Tryz.prog.cellsOf 167 = 2 by kernel_rfl] at hl
  obtain ⟨a, b, rfl⟩ := len2 hl
  simp [cells_str, show Tryz.prog.cellsOf 23 = 1 by kernel_rfl] at hf
  obtain ⟨h0, h1⟩ := hf
  obtain ⟨x0, e0, w0⟩ := typed_str Tryz.underlying9 h0
  obtain ⟨x1, e1, w1⟩ := told_ints _ h1
  cases e0
  rw [show tagg Tryz.prog 23 = false by kernel_rfl] at e1
  simp [mkVal] at e1
  subst e1
  exact ⟨⟨x0, x1⟩, by rw [show tagg Tryz.prog 167 = true by kernel_rfl]; rfl, w0, w1⟩
theorem told_Image : ∀ bs, Typed Tryz.prog 80 bs → ∃ x : Img, mkVal (tagg Tryz.prog 80) bs = eImg x ∧ FitI x := by
  intro bs h
  obtain ⟨hl, hf⟩ := typed_strct Tryz.underlying80 h
  rw [show Tryz.prog.cellsOf 80 = 4 by kernel_rfl] at hl
  obtain ⟨a, b, c, d, rfl⟩ := len4 hl
  simp [show Tryz.prog.cellsOf 23 = 1 by kernel_rfl, show Tryz.prog.cellsOf 78 = 1 by kernel_rfl] at hf
  obtain ⟨h0, h1, h2, h3⟩ := hf
  obtain ⟨x0, e0, w0⟩ := told_ints _ h0
  obtain ⟨x1, e1, w1⟩ := told_ints _ h1
  obtain ⟨x2, e2, w2, q2⟩ := typed_list Tryz.underlying78 told_Snap h2
  obtain ⟨x3, e3, w3⟩ := told_ints _ h3
  rw [show tagg Tryz.prog 23 = false by kernel_rfl] at e0 e1 e3
  simp [mkVal] at e0 e1 e3
  rw [show Tryz.prog.cellsOf 167 = 2 by kernel_rfl] at e2
  cases e2
  subst e0; subst e1; subst e3
  exact ⟨⟨x0, x1, x2, x3⟩, by rw [show tagg Tryz.prog 80 = true by kernel_rfl]; rfl, ⟨w0, w1, w2, q2, w3⟩⟩
end Go.Proofs.YtndgpinhbffleaaGreat

