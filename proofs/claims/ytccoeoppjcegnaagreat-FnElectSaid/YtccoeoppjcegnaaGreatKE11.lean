/- A reading of the loaded code over plain data, its soundness, and what functions answer by it (part 11; joined by program). No condition. -/
import Derived.Test.YtccoeoppjcegnaaGreatKE10
set_option linter.all false
namespace Go.Proofs.YtccoeoppjcegnaaGreat
open Go
set_option maxRecDepth 100000
set_option maxHeartbeats 1000000
set_option linter.unusedSimpArgs false
set_option linter.unusedVariables false
theorem putD_sure (ss : List Tx) (h a : Int) (t : Tx) : putD ⟨ss, []⟩ h a t = ⟨ss.set a.toNat t, []⟩ := by
  simp [putD, settleD, landL, goes, sOf]
theorem ldrF_ldrT {x : Leader} (hx : ldrOK x = true) : ldrF (ldrT x) = some x := by
  have h2 := hx
  simp [ldrOK, inn] at h2
  have ho : openF (ldrT x) 6 = some [x.ver, x.owner + 1, x.gen] := by
    unfold ldrT
    refine open_seal (by decide) ?_
    simp [intsOK, isNum, inn]
    omega
  have hw : IntKind.i64.wrap (x.owner + 1 - 1) = x.owner := by rw [wrap_id (by omega)]; omega
  unfold ldrF
  rw [ho]
  simp only [hw]
  rw [if_pos hx]
theorem ldrT_len (x : Leader) : (ldrT x).length = 16 := by simp [ldrT, sealF_length]
theorem blF_blT {b : Bl} (hb : blkOK b = true) : blF (blT b) = some b := by
  have h2 := hb
  simp [blkOK, isNum, inn] at h2
  have ho : openF (blT b) 5 = some [b.ver, b.mbal, b.bal, b.inp] := by
    unfold blT
    refine open_seal (by decide) ?_
    simp [intsOK, isNum, inn]
    omega
  unfold blF
  rw [ho]
  simp only
  rw [if_pos hb]
theorem maxM_old (v : Int) : ∀ l : List Bl, (∀ b ∈ l, b.ver < v) → maxM v l 0 = 0 := by
  intro l
  induction l with
  | nil => intro _; rfl
  | cons b l ih =>
    intro h
    unfold maxM
    rw [ofV_old (h b (by simp))]
    simp only [Int.lt_irrefl, if_false]
    exact ih fun x hx => h x (by simp [hx])
theorem rdLd_sure (ss : List Tx) (h : Int) : rdLd ⟨ss, []⟩ h = (ldrF (ss.getD 0 [])).getD (noL 0) := rfl
theorem rdB_sure (ss : List Tx) (h i : Int) : rdB ⟨ss, []⟩ h i = (blF (ss.getD (1 + i).toNat [])).getD zBl := rfl
theorem set_ok {ss : List Tx} {n : Nat} {t : Tx} (hd : diskOK ⟨ss, []⟩ = true) (ht : t.length ≤ 80) : diskOK ⟨ss.set n t, []⟩ = true := by
  obtain ⟨a1, a2, a3, a4⟩ := diskOK_iff.1 hd
  refine diskOK_iff.2 ⟨by simpa using a1, fun s hs => ?_, a3, a4⟩
  rcases List.mem_or_eq_of_mem_set hs with hs | rfl
  · exact a2 s hs
  · exact ht
theorem elect_alone {ss : List Tx} {h owner gen : Int} (hd : diskOK ⟨ss, []⟩ = true) (hh : 0 ≤ h ∧ h ≤ 3) (ho : 0 ≤ owner ∧ owner ≤ 3) (hg : 1 ≤ gen ∧ gen ≤ 1000000) (hv : (rdLd ⟨ss, []⟩ h).ver + 1 ≤ 1000000)
    (hb : ∀ b ∈ blks ⟨ss, []⟩ h, b.ver < (rdLd ⟨ss, []⟩ h).ver + 1) :
    nextB h ((rdLd ⟨ss, []⟩ h).ver + 1) (blks ⟨ss, []⟩ h) ≤ 1000000 ∧
    electA ⟨ss, []⟩ h owner gen = (⟨(ss.set (1 + h).toNat (blT ⟨(rdLd ⟨ss, []⟩ h).ver + 1, 4 + h, 4 + h, 1024 * gen + owner⟩)).set 0 (ldrT ⟨(rdLd ⟨ss, []⟩ h).ver + 1, owner, gen⟩), []⟩, ⟨(rdLd ⟨ss, []⟩ h).ver + 1, owner, gen⟩, 0) ∧
    blkOK ⟨(rdLd ⟨ss, []⟩ h).ver + 1, 4 + h, 4 + h, 1024 * gen + owner⟩ = true ∧ ldrOK ⟨(rdLd ⟨ss, []⟩ h).ver + 1, owner, gen⟩ = true := by
  obtain ⟨v1, v2, v3⟩ := rdLd_ver ⟨ss, []⟩ h
  generalize hL : (rdLd ⟨ss, []⟩ h).ver + 1 = v at *
  have hB : nextB h v (blks ⟨ss, []⟩ h) = 4 + h := by
    unfold nextB
    rw [maxM_old v _ hb]
    simp
  obtain ⟨a1, a2, a3⟩ := alone ⟨ss, []⟩ h v (4 + h) (1024 * gen + owner) (blks ⟨ss, []⟩ h) hh (by omega) rfl hb
  have hs0 : es0 ⟨ss, []⟩ h owner gen = ⟨⟨ss, []⟩, px0 h v (4 + h) (1024 * gen + owner), blks ⟨ss, []⟩ h⟩ := by
    unfold es0; rw [hL, hB]
  have m1 : (1024 * gen + owner).tmod 1024 = owner := by rw [Int.tmod_eq_emod_of_nonneg (by omega)]; omega
  have m2 : (1024 * gen + owner).tdiv 1024 = gen := by rw [Int.tdiv_eq_ediv_of_nonneg (by omega)]; omega
  have hok : ldrOK ⟨v, owner, gen⟩ = true := by simp [ldrOK, inn]; omega
  refine ⟨by rw [hB]; omega, ?_, ?_, hok⟩
  · unfold electA
    rw [hs0, hL]
    generalize runE 40 ⟨⟨ss, []⟩, px0 h v (4 + h) (1024 * gen + owner), blks ⟨ss, []⟩ h⟩ = r at *
    unfold endE
    rw [a1, a2, m1, m2, if_neg (by simp [hok]), a3, putD_sure, putD_sure, putD_sure]
    simp
  · simp [blkOK, isNum, inn]; omega
end Go.Proofs.YtccoeoppjcegnaaGreat


namespace Go.Proofs.YtccoeoppjcegnaaGreat
open Go
set_option maxRecDepth 100000
set_option maxHeartbeats 2000000
set_option linter.unusedSimpArgs false
set_option linter.unusedVariables false
/-! Texts that say little. -/
structure Mild (t : Tx) : Prop where
  d : ∀ x, dltF t = some x → x.gen ≤ 3
  l : ∀ x, ldrF t = some x → x.ver ≤ 3
  b : ∀ x, blF t = some x → x.mbal ≤ 11
theorem openF_kind {t : Tx} {k : Int} (h : ((t.getD 0 0).toNat : Int) ≠ k) : openF t k = none := by
  unfold openF
  rw [if_neg]
  exact fun hc => h hc.2.1
theorem mild_of {t : Tx} (h9 : ((t.getD 0 0).toNat : Int) ≠ 9) (h6 : ((t.getD 0 0).toNat : Int) ≠ 6) (h5 : ((t.getD 0 0).toNat : Int) ≠ 5) : Mild t := by
  refine ⟨fun x hx => ?_, fun x hx => ?_, fun x hx => ?_⟩
  · unfold dltF at hx; rw [openF_kind h9] at hx; cases hx
  · unfold ldrF at hx; rw [openF_kind h6] at hx; cases hx
  · unfold blF at hx; rw [openF_kind h5] at hx; cases hx
theorem mild_nil : Mild [] := mild_of (by decide) (by decide) (by decide)
theorem seal_first (k : Int) (l : List Int) (hk : 0 ≤ k ∧ k < 256) : (((sealF k l).getD 0 0).toNat : Int) = k := by
  have : (sealF k l).getD 0 0 = byteOf k := by simp [sealF]
  rw [this]; exact byteOf_small hk
theorem mild_dlt {x : Delta} (hx : dltOK x = true) (hg : x.gen ≤ 3) : Mild (dltT x) := by
  have hf : (((dltT x).getD 0 0).toNat : Int) = 9 := seal_first 9 _ (by omega)
  have h2 := hx
  simp [dltOK, inn] at h2
  refine ⟨fun y hy => ?_, fun y hy => ?_, fun y hy => ?_⟩
  · have ho : openF (dltT x) 9 = some [x.host, x.gen, x.stamp] := by
      unfold dltT
      refine open_seal (by decide) ?_
      simp [intsOK, isNum, inn]; omega
    unfold dltF at hy
    rw [ho] at hy
    simp only at hy
    rw [if_pos hx] at hy
    injection hy with hy; subst hy; exact hg
  · unfold ldrF at hy; rw [openF_kind (by rw [hf]; decide)] at hy; cases hy
  · unfold blF at hy; rw [openF_kind (by rw [hf]; decide)] at hy; cases hy
theorem mild_ldr {x : Leader} (hx : ldrOK x = true) (hg : x.ver ≤ 3) : Mild (ldrT x) := by
  have hf : (((ldrT x).getD 0 0).toNat : Int) = 6 := seal_first 6 _ (by omega)
  refine ⟨fun y hy => ?_, fun y hy => ?_, fun y hy => ?_⟩
  · unfold dltF at hy; rw [openF_kind (by rw [hf]; decide)] at hy; cases hy
  · rw [ldrF_ldrT hx] at hy
    injection hy with hy; subst hy; exact hg
  · unfold blF at hy; rw [openF_kind (by rw [hf]; decide)] at hy; cases hy
theorem mild_bl {x : Bl} (hx : blkOK x = true) (hg : x.mbal ≤ 11) : Mild (blT x) := by
  have hf : (((blT x).getD 0 0).toNat : Int) = 5 := seal_first 5 _ (by omega)
  refine ⟨fun y hy => ?_, fun y hy => ?_, fun y hy => ?_⟩
  · unfold dltF at hy; rw [openF_kind (by rw [hf]; decide)] at hy; cases hy
  · unfold ldrF at hy; rw [openF_kind (by rw [hf]; decide)] at hy; cases hy
  · rw [blF_blT hx] at hy
    injection hy with hy; subst hy; exact hg
theorem someF_letters : ∀ (l : List Unit) (a : Tx × Src) (k : Nat), SrcOK a.2 k → (∀ c ∈ a.1, 97 ≤ c.toNat) → ∀ c ∈ (someF l a).1, 97 ≤ c.toNat := by
  intro l
  induction l with
  | nil => intro a k _ h; exact h
  | cons u l ih =>
    intro a k g h
    obtain ⟨g1, a1, b1⟩ := nextF_ok 26 g
    unfold someF
    refine ih _ _ g1 ?_
    intro c hc
    simp only [List.mem_append, List.mem_singleton] at hc
    rcases hc with hc | rfl
    · exact h c hc
    · have := byteOf_small (k := 97 + (nextF 26 a.2).1) (by omega)
      omega
theorem mild_letters {t : Tx} (h : ∀ c ∈ t, 97 ≤ c.toNat) : Mild t := by
  cases t with
  | nil => exact mild_nil
  | cons c t =>
    have := h c (by simp)
    exact mild_of (by simp; omega) (by simp; omega) (by simp; omega)
/-- A drawn disk: its texts are mild, its writes in their places. -/
structure Drawn (d : Disk) (n : Nat) : Prop where
  g : Good d n
  s : ∀ t ∈ d.ss, Mild t
  p : ∀ x ∈ d.ps, Mild x.data
theorem landL_mild (h : Int) (lose : Bool) : ∀ (ps : List Io) (k : Int) (ss : List Tx), (∀ x ∈ ps, Mild x.data) → (∀ s ∈ ss, Mild s) → ∀ s ∈ (landL h lose ps k ss).2.2, Mild s := by
  intro ps
  induction ps with
  | nil => intro k ss _ h; exact h
  | cons x ps ih =>
    intro k ss hx hs
    unfold landL
    split
    · refine ih _ _ (fun y hy => hx y (by simp [hy])) ?_
      intro s hm
      unfold sOf at hm
      split at hm
      · rcases List.mem_or_eq_of_mem_set hm with hm | rfl
        · exact hs s hm
        · exact hx x (by simp)
      · exact hs s hm
    · exact ih _ _ (fun y hy => hx y (by simp [hy])) hs
theorem Drawn.settle {d : Disk} {n : Nat} (g : Drawn d n) (h k : Int) (lose : Bool) : Drawn (settleD d h k lose) n :=
  ⟨g.g.settle h k lose, landL_mild h lose d.ps k d.ss g.p g.s, landL_all h lose (fun x => Mild x.data) d.ps k d.ss g.p⟩
theorem Drawn.put {d : Disk} {n : Nat} (g : Drawn d n) (x : Io) (ha : 0 ≤ x.at_ ∧ x.at_.toNat < 64) (hm : Mild x.data) : Drawn ⟨d.ss, d.ps ++ [x]⟩ (n + 1) := by
  refine ⟨⟨g.g.ss, by have := g.g.ps; simp; omega, fun y hy => ?_⟩, g.s, fun y hy => ?_⟩
  · simp only [List.mem_append, List.mem_singleton] at hy
    rcases hy with hy | rfl
    · exact g.g.at_ y hy
    · exact ha
  · simp only [List.mem_append, List.mem_singleton] at hy
    rcases hy with hy | rfl
    · exact g.p y hy
    · exact hm
theorem Drawn.up {d : Disk} {n m : Nat} (g : Drawn d n) (h : n ≤ m) : Drawn d m := ⟨⟨g.g.ss, by have := g.g.ps; omega, g.g.at_⟩, g.s, g.p⟩
/-! Disks. -/
def sm1 (s : Src) : Int × Src := nextF 4 s
def ioF (s : Src) : Io × Src :=
  (⟨(nextF 4 s).1, (nextF 8 (nextF 4 s).2).1, (someF (List.replicate (nextF 5 (nextF 8 (nextF 4 s).2).2).1.toNat ()) ([], (nextF 5 (nextF 8 (nextF 4 s).2).2).2)).1⟩,
   (someF (List.replicate (nextF 5 (nextF 8 (nextF 4 s).2).2).1.toNat ()) ([], (nextF 5 (nextF 8 (nextF 4 s).2).2).2)).2)
def dkF : List Unit → Disk × Src → Disk × Src
  | [], a => a
  | _ :: r, a => dkF r (if (nextF 5 a.2).1 = 0 then (settleD a.1 (nextF 4 (nextF 5 a.2).2).1 200 false, (nextF 4 (nextF 5 a.2).2).2) else (⟨a.1.ss, a.1.ps ++ [(ioF (nextF 5 a.2).2).1]⟩, (ioF (nextF 5 a.2).2).2))
theorem ioF_ok {s : Src} {k : Nat} (g : SrcOK s k) : SrcOK (ioF s).2 (k + 30) ∧ 0 ≤ (ioF s).1.host ∧ (ioF s).1.host ≤ 3 ∧ 0 ≤ (ioF s).1.at_ ∧ (ioF s).1.at_ ≤ 7 ∧ (ioF s).1.data.length ≤ 4 ∧ Mild (ioF s).1.data := by
  obtain ⟨g1, a1, b1⟩ := nextF_ok 4 g
  obtain ⟨g2, a2, b2⟩ := nextF_ok 8 g1
  obtain ⟨g3, a3, b3⟩ := nextF_ok 5 g2
  obtain ⟨g4, hl⟩ := someF_ok (List.replicate (nextF 5 (nextF 8 (nextF 4 s).2).2).1.toNat ()) ([], (nextF 5 (nextF 8 (nextF 4 s).2).2).2) _ g3
  have hm := someF_letters (List.replicate (nextF 5 (nextF 8 (nextF 4 s).2).2).1.toNat ()) ([], (nextF 5 (nextF 8 (nextF 4 s).2).2).2) _ g3 (by simp)
  unfold ioF
  refine ⟨g4.mono (by simp; omega), a1, by simp only; omega, a2, by simp only; omega, ?_, mild_letters hm⟩
  simp only
  rw [hl]; simp; omega
theorem dkF_ok : ∀ (l : List Unit) (a : Disk × Src) (k n : Nat), SrcOK a.2 k → Drawn a.1 n → SrcOK (dkF l a).2 (k + 40 * l.length) ∧ Drawn (dkF l a).1 (n + l.length) := by
  intro l
  induction l with
  | nil => intro a k n g h; exact ⟨g, h⟩
  | cons u l ih =>
    intro a k n g h
    obtain ⟨g1, a1, b1⟩ := nextF_ok 5 g
    unfold dkF
    simp only [List.length_cons]
    split
    · obtain ⟨g2, a2, b2⟩ := nextF_ok 4 g1
      obtain ⟨i1, i2⟩ := ih (settleD a.1 (nextF 4 (nextF 5 a.2).2).1 200 false, (nextF 4 (nextF 5 a.2).2).2) (k + 3 + 3) n g2 (h.settle _ _ _)
      exact ⟨i1.mono (by omega), i2.up (by omega)⟩
    · obtain ⟨g2, c1, c2, c3, c4, c5, c6⟩ := ioF_ok g1
      obtain ⟨i1, i2⟩ := ih (⟨a.1.ss, a.1.ps ++ [(ioF (nextF 5 a.2).2).1]⟩, (ioF (nextF 5 a.2).2).2) (k + 3 + 30) (n + 1) g2 (h.put _ (by omega) c6)
      exact ⟨i1.mono (by omega), i2.up (by omega)⟩
theorem drawn64 : Drawn d64 0 := ⟨⟨by decide, by decide, by intro x hx; cases hx⟩, by intro t ht; simp [d64, E64] at ht; subst ht; exact mild_nil, by intro x hx; cases hx⟩
theorem l01New_E : E CX 24 [] [] = some { val := .agg [.ref [0, 0, 0, 0] 0 64, .ref [1, 0, 0, 0] 0 0], own := [⟨false, 9, 1, List.replicate 64 (.str [])⟩, ⟨false, 78, 3, []⟩] } := by
  refine E_fin Tryz.f24 _ an24 rfl rfl rfl Tryz.func24 rfl (by kernel_rfl) ?_
  simp [go_sem, -List.reduceReplicate]
/-- An answer that is a disk of rows of its own. -/
def ownDisk (d : Disk) : AV := .agg [.ref [0, 0, 0, 0] 0 d.ss.length, .ref [1, 0, 0, 0] 0 d.ps.length]
def ownRows (d : Disk) : List Blk := [⟨false, 9, 1, d.ss.map .str⟩, ⟨false, 78, 3, d.ps.map eIo⟩]
def dkD (s : Src) : Disk × Src := dkF (List.replicate (nextF 20 s).1.toNat ()) (d64, (nextF 20 s).2)
theorem dkD_ok {s : Src} {k : Nat} (g : SrcOK s k) : SrcOK (dkD s).2 (k + 1000) ∧ Drawn (dkD s).1 20 := by
  obtain ⟨g1, a1, b1⟩ := nextF_ok 20 g
  obtain ⟨h1, h2⟩ := dkF_ok (List.replicate (nextF 20 s).1.toNat ()) (d64, (nextF 20 s).2) _ 0 g1 drawn64
  unfold dkD
  simp only [List.length_replicate] at h1 h2
  exact ⟨h1.mono (by omega), h2.up (by omega)⟩
theorem disk_E (s : Src) (k : Nat) (hk : k ≤ 500000000) (g : SrcOK s k) : E CX 91 [.ptr [0] 0 0] [([0], eSrc s)] = some { val := ownDisk (dkD s).1, io := [eSrc (dkD s).2], own := ownRows (dkD s).1 } := by
  obtain ⟨g1, a1, b1⟩ := nextF_ok 20 g
  have e1 := next_E 20 s k (by omega) g
  unfold dkD
  generalize nextF 20 s = u at *
  obtain ⟨v, s1⟩ := u
  simp only at g1 a1 b1
  have hl : (List.replicate v.toNat ()).length = v.toNat := by simp
  generalize List.replicate v.toNat () = l at *
  have hfin := dkF_ok l (d64, s1) _ 0 g1 drawn64
  have e0 := l01New_E
  have hE : E64.map AV.str = List.replicate 64 (.str []) := by simp [E64, -List.reduceReplicate]
  refine E_fin Tryz.f91 _ an91 rfl rfl rfl Tryz.func91 rfl (by kernel_rfl) ?_
  simp only [eSrc] at e1
  simp [go_sem, eSrc, e0, e1, -List.reduceReplicate]
  refine loop_for (fun X => fin CX _ _ X = _) l (fun n (a : Disk × Src) => SrcOK a.2 (k + 3 + 40 * n) ∧ Drawn a.1 n) (fun n a => ⟨SS [(0, .ptr [0] 0 0), (2, .ptr [2] 0 0), (3, .ptr [3] 0 0), (4, .int .i64 (v - n))], HS [([0], eSrc a.2), ([2], ⟨true, 26, 2, [.agg [.nil, .nil]]⟩), ([3], ⟨true, 26, 2, [eDisk a.1]⟩)]⟩)
    (fun r n a => (.exit 0, ⟨SS [(2, .ptr [2] 0 0), (3, .ptr [3] 0 0)], HS [([2], ⟨true, 26, 2, [.agg [.nil, .nil]]⟩), ([3], ⟨true, 26, 2, [eDisk (dkF r a).1]⟩), ([0], eSrc (dkF r a).2)]⟩)) (d64, s1) ⟨g1, drawn64⟩ ?_ ?_ ?_ ?_ ?_
  · simp [go_sem, eSrc, eDisk, d64, hE, -List.reduceReplicate]
  · intro R n a x r hn hx hd hI hR
    obtain ⟨hI1, hI2⟩ := hI
    have e2 := next_E 5 a.2 (k + 3 + 40 * n) (by omega) hI1
    obtain ⟨g2, a2, b2⟩ := nextF_ok 5 hI1
    have e3 := next_E 4 (nextF 5 a.2).2 (k + 3 + 40 * n + 3) (by omega) g2
    obtain ⟨g3, a3, b3⟩ := nextF_ok 4 g2
    have e4 := next_E 8 (nextF 4 (nextF 5 a.2).2).2 (k + 3 + 40 * n + 3 + 3) (by omega) g3
    obtain ⟨g4, a4, b4⟩ := nextF_ok 8 g3
    have e5 := next_E 5 (nextF 8 (nextF 4 (nextF 5 a.2).2).2).2 (k + 3 + 40 * n + 3 + 3 + 3) (by omega) g4
    obtain ⟨g5, a5, b5⟩ := nextF_ok 5 g4
    have e6 := some_E (nextF 5 (nextF 8 (nextF 4 (nextF 5 a.2).2).2).2).1.toNat (nextF 5 (nextF 8 (nextF 4 (nextF 5 a.2).2).2).2).2 (k + 3 + 40 * n + 3 + 3 + 3 + 3) (by omega) (by omega) g5
    rw [show (((nextF 5 (nextF 8 (nextF 4 (nextF 5 a.2).2).2).2).1.toNat : Nat) : Int) = (nextF 5 (nextF 8 (nextF 4 (nextF 5 a.2).2).2).2).1 by omega] at e6
    by_cases c : (nextF 5 a.2).1 = 0
    · have hgd := hI2.g
      have e7 := l01Flush_E a.1 (nextF 4 (nextF 5 a.2).2).1 ⟨hgd.ss, by have := hgd.ps; omega, hgd.at_⟩
      have := hR (settleD a.1 (nextF 4 (nextF 5 a.2).2).1 200 false, (nextF 4 (nextF 5 a.2).2).2) ⟨g3.mono (by omega), (hI2.settle _ _ _).up (by omega)⟩ (by simp [dkF, c])
      generalize settleD a.1 (nextF 4 (nextF 5 a.2).2).1 200 false = sd at *
      generalize nextF 4 (nextF 5 a.2).2 = x4 at *
      generalize nextF 5 a.2 = x5 at *
      simp only [eSrc] at e2 e3
      simp only [eDisk] at e7
      simp [go_sem, eSrc, eDisk, show v - ((n : Int) + 1) = v - n - 1 by omega] at this
      simp [go_sem, eSrc, eDisk, e2, e3, e7, c, show (n : Int) < v by omega, show (0 : Int) < v - n by omega, wrap_id (n := v - (n : Int) - 1) (by omega)]
      exact this
    · have hio := ioF_ok g2
      have e7 := l01Write_E a.1 (ioF (nextF 5 a.2).2).1 (by have := hI2.g.ps; omega)
      have := hR (⟨a.1.ss, a.1.ps ++ [(ioF (nextF 5 a.2).2).1]⟩, (ioF (nextF 5 a.2).2).2) ⟨hio.1.mono (by omega), (hI2.put _ (by omega) hio.2.2.2.2.2.2).up (by omega)⟩ (by simp [dkF, c])
      unfold ioF at this e7
      generalize someF (List.replicate (nextF 5 (nextF 8 (nextF 4 (nextF 5 a.2).2).2).2).1.toNat ()) ([], (nextF 5 (nextF 8 (nextF 4 (nextF 5 a.2).2).2).2).2) = y at *
      generalize nextF 5 (nextF 8 (nextF 4 (nextF 5 a.2).2).2).2 = x3 at *
      generalize nextF 8 (nextF 4 (nextF 5 a.2).2).2 = x8 at *
      generalize nextF 4 (nextF 5 a.2).2 = x4 at *
      generalize nextF 5 a.2 = x5 at *
      simp only [eSrc] at e2 e3 e4 e5 e6
      simp only [eDisk, eIo] at e7
      try simp at e7
      simp [go_sem, eSrc, eDisk, eIo, show v - ((n : Int) + 1) = v - n - 1 by omega] at this
      simp [go_sem, eSrc, eDisk, eIo, e2, e3, e4, e5, e6, e7, c, show (n : Int) < v by omega, show (0 : Int) < v - n by omega, wrap_id (n := v - (n : Int) - 1) (by omega)]
      exact this
  · intro a hI
    have : v - (l.length : Int) = 0 := by omega
    simp [go_sem, dkF, eSrc, eDisk, this]
  · intro _; simp
  · have e8 := l01Own_E (dkF l (d64, s1)).1 (by have := hfin.2.g.ss; omega) (by have := hfin.2.g.ps; omega)
    simp only [eDisk] at e8
    simp [go_sem, eSrc, eDisk, e8, ownDisk, ownRows]
end Go.Proofs.YtccoeoppjcegnaaGreat


namespace Go.Proofs.YtccoeoppjcegnaaGreat
open Go
set_option maxRecDepth 100000
set_option maxHeartbeats 2000000
set_option linter.unusedSimpArgs false
set_option linter.unusedVariables false
theorem chance_E (m : Int) (s : Src) (k : Nat) (hk : k ≤ 800000000) (hm : 0 ≤ m ∧ m ≤ 1000) (g : SrcOK s k) : E CX 62 [.ptr [0] 0 0, .int .i64 m] [([0], eSrc s)] = some { val := .bool ((nextF m s).1 == m - 1), io := [eSrc (nextF m s).2] } := by
  have e1 := next_E m s k (by omega) g
  refine E_fin Tryz.f62 _ an62 rfl rfl rfl Tryz.func62 rfl (by kernel_rfl) ?_
  generalize nextF m s = u at *
  simp only [eSrc] at e1
  simp [go_sem, eSrc, e1, wrap_id (n := m - 1) (by omega)]
def dltG (s : Src) : Delta × Src := (⟨(nextF 4 s).1, 1 + (nextF 3 (nextF 4 s).2).1, (nextF 20 (nextF 3 (nextF 4 s).2).2).1⟩, (nextF 20 (nextF 3 (nextF 4 s).2).2).2)
theorem dltG_ok {s : Src} {k : Nat} (g : SrcOK s k) : SrcOK (dltG s).2 (k + 9) ∧ dltOK (dltG s).1 = true ∧ (dltG s).1.gen ≤ 3 ∧ 0 ≤ (dltG s).1.host ∧ (dltG s).1.host ≤ 3 := by
  obtain ⟨g1, a1, b1⟩ := nextF_ok 4 g
  obtain ⟨g2, a2, b2⟩ := nextF_ok 3 g1
  obtain ⟨g3, a3, b3⟩ := nextF_ok 20 g2
  unfold dltG
  refine ⟨g3.mono (by omega), ?_, by simp only; omega, by simp only; omega, by simp only; omega⟩
  simp [dltOK, inn]; omega
theorem dlt_E (s : Src) (k : Nat) (hk : k ≤ 700000000) (g : SrcOK s k) : E CX 94 [.ptr [0] 0 0] [([0], eSrc s)] = some { val := eDelta (dltG s).1, io := [eSrc (dltG s).2] } := by
  obtain ⟨g1, a1, b1⟩ := nextF_ok 4 g
  obtain ⟨g2, a2, b2⟩ := nextF_ok 3 g1
  have e1 := next_E 4 s k (by omega) g
  have e2 := next_E 3 (nextF 4 s).2 (k + 3) (by omega) g1
  have e3 := next_E 20 (nextF 3 (nextF 4 s).2).2 (k + 3 + 3) (by omega) g2
  refine E_fin Tryz.f94 _ an94 rfl rfl rfl Tryz.func94 rfl (by kernel_rfl) ?_
  unfold dltG
  generalize nextF 20 (nextF 3 (nextF 4 s).2).2 = x3 at *
  generalize nextF 3 (nextF 4 s).2 = x2 at *
  generalize nextF 4 s = x1 at *
  simp only [eSrc] at e1 e2 e3
  simp [go_sem, eSrc, eDelta, e1, e2, e3, wrap_id (n := 1 + x2.1) (by omega)]
/-- A drawn disk whose first sector may be cut off. -/
structure Cut where
  ss : List Tx
  o : Nat
  ps : List Io
def cutV (c : Cut) : AV := .agg [.ref [0, 0, 0, 0] c.o (64 - c.o), .ref [1, 0, 0, 0] 0 c.ps.length]
def cutR (c : Cut) : List Blk := [⟨false, 9, 1, c.ss.map .str⟩, ⟨false, 78, 3, c.ps.map eIo⟩]
structure CutOK (c : Cut) : Prop where
  len : c.ss.length = 64
  o : c.o ≤ 1
  s : ∀ t ∈ c.ss, Mild t
  p : c.ps.length ≤ 1000
theorem anyDisk_E (s : Src) (k : Nat) (hk : k ≤ 400000000) (g : SrcOK s k) : ∃ c s', E CX 95 [.ptr [0] 0 0] [([0], eSrc s)] = some { val := cutV c, io := [eSrc s'], own := cutR c } ∧ CutOK c ∧ SrcOK s' (k + 2000) := by
  have e1 := disk_E s k (by omega) g
  obtain ⟨g1, hd⟩ := dkD_ok g
  have e2 := next_E 12 (dkD s).2 (k + 1000) (by omega) g1
  obtain ⟨g2, a2, b2⟩ := nextF_ok 12 g1
  have e3 := some_E 81 (nextF 12 (dkD s).2).2 (k + 1000 + 3) (by omega) (by omega) g2
  obtain ⟨g3, hl3⟩ := someF_ok (List.replicate 81 ()) ([], (nextF 12 (dkD s).2).2) _ g2
  have hm3 := someF_letters (List.replicate 81 ()) ([], (nextF 12 (dkD s).2).2) _ g2 (by simp)
  have d1 := hd.g.ss; have d2 := hd.g.ps; have d3 := hd.s
  simp only [List.length_replicate] at g3
  generalize someF (List.replicate 81 ()) ([], (nextF 12 (dkD s).2).2) = y at *
  generalize nextF 12 (dkD s).2 = x at *
  generalize dkD s = u at *
  obtain ⟨⟨ss, ps⟩, s1⟩ := u
  obtain ⟨v, s2⟩ := x
  simp only at d1 d2 d3 a2 b2 g2
  simp only [eSrc, ownDisk, ownRows] at e1
  simp only [eSrc] at e2 e3
  rw [show ((81 : Nat) : Int) = 81 from rfl] at e3
  rw [d1] at e1
  by_cases c0 : v = 0
  · refine ⟨⟨ss, 1, ps⟩, s2, ?_, ⟨d1, by simp, d3, by simp only; omega⟩, g2.mono (by omega)⟩
    refine E_fin Tryz.f95 _ an95 rfl rfl rfl Tryz.func95 rfl (by kernel_rfl) ?_
    simp [go_sem, eSrc, cutV, cutR, e1, e2, c0, d1]
  · by_cases c1 : v = 1
    · refine ⟨⟨ss, 0, ps ++ [⟨4, 0, []⟩]⟩, s2, ?_, ⟨d1, by simp, d3, by simp; omega⟩, g2.mono (by omega)⟩
      refine E_fin Tryz.f95 _ an95 rfl rfl rfl Tryz.func95 rfl (by kernel_rfl) ?_
      simp [go_sem, eSrc, eIo, cutV, cutR, e1, e2, c0, c1, d1, show ps.length + 1 ≤ 1073741824 by omega]
    · by_cases c2 : v = 2
      · refine ⟨⟨ss.set 0 y.1, 0, ps⟩, y.2, ?_, ⟨by simp [d1], by simp, fun t ht => ?_, by simp only; omega⟩, g3.mono (by omega)⟩
        · refine E_fin Tryz.f95 _ an95 rfl rfl rfl Tryz.func95 rfl (by kernel_rfl) ?_
          simp [go_sem, eSrc, cutV, cutR, e1, e2, e3, c0, c1, c2, d1, List.map_set]
        · rcases List.mem_or_eq_of_mem_set ht with ht | rfl
          · exact d3 t ht
          · exact mild_letters hm3
      · refine ⟨⟨ss, 0, ps⟩, s2, ?_, ⟨d1, by simp, d3, by simp only; omega⟩, g2.mono (by omega)⟩
        refine E_fin Tryz.f95 _ an95 rfl rfl rfl Tryz.func95 rfl (by kernel_rfl) ?_
        simp [go_sem, eSrc, cutV, cutR, e1, e2, c0, c1, c2, d1]
def dpF : List Unit → Disk × Src → Disk × Src
  | [], a => a
  | _ :: r, a => dpF r (putD a.1 (dltG a.2).1.host (5 + (dltG a.2).1.host) (dltT (dltG a.2).1), (dltG a.2).2)
theorem putD_drawn {d : Disk} {n : Nat} (g : Drawn d n) (h a : Int) (t : Tx) (ha : 0 ≤ a ∧ a.toNat < 64) (hm : Mild t) : Drawn (putD d h a t) (n + 1) :=
  (g.put ⟨h, a, t⟩ ha hm).settle h 201 false
theorem dpF_ok : ∀ (l : List Unit) (a : Disk × Src) (k n : Nat), SrcOK a.2 k → Drawn a.1 n → SrcOK (dpF l a).2 (k + 9 * l.length) ∧ Drawn (dpF l a).1 (n + l.length) := by
  intro l
  induction l with
  | nil => intro a k n g h; exact ⟨g, h⟩
  | cons u l ih =>
    intro a k n g h
    obtain ⟨g1, q1, q2, q3, q4⟩ := dltG_ok g
    obtain ⟨i1, i2⟩ := ih (putD a.1 (dltG a.2).1.host (5 + (dltG a.2).1.host) (dltT (dltG a.2).1), (dltG a.2).2) (k + 9) (n + 1) g1 (putD_drawn h _ _ _ (by omega) (mild_dlt q1 q2))
    unfold dpF
    simp only [List.length_cons]
    exact ⟨i1.mono (by omega), i2.up (by omega)⟩
theorem deltaDisk_E (s : Src) (k : Nat) (hk : k ≤ 300000000) (g : SrcOK s k) : ∃ c s', E CX 61 [.ptr [0] 0 0] [([0], eSrc s)] = some { val := cutV c, io := [eSrc s'], own := cutR c } ∧ CutOK c ∧ SrcOK s' (k + 4000) := by
  have e1 := disk_E s k (by omega) g
  obtain ⟨g1, hd⟩ := dkD_ok g
  have e2 := next_E 4 (dkD s).2 (k + 1000) (by omega) g1
  obtain ⟨g2, a2, b2⟩ := nextF_ok 4 g1
  generalize nextF 4 (dkD s).2 = x at *
  generalize dkD s = u at *
  obtain ⟨d0, s1⟩ := u
  obtain ⟨v, s2⟩ := x
  simp only at a2 b2 g2 hd
  have hl : (List.replicate v.toNat ()).length = v.toNat := by simp
  generalize List.replicate v.toNat () = l at *
  obtain ⟨g3, hd3⟩ := dpF_ok l (d0, s2) _ 20 g2 hd
  have e3 := chance_E 12 (dpF l (d0, s2)).2 (k + 1000 + 3 + 9 * l.length) (by omega) (by omega) g3
  obtain ⟨g4, a4, b4⟩ := nextF_ok 12 g3
  obtain ⟨c, s', e4, hc, g5⟩ := anyDisk_E (nextF 12 (dpF l (d0, s2)).2).2 (k + 1000 + 3 + 9 * l.length + 3) (by omega) g4
  have e5 := l01Own_E (dpF l (d0, s2)).1 (by have := hd3.g.ss; omega) (by have := hd3.g.ps; omega)
  have f1 := hd3.g.ss; have f2 := hd3.g.ps
  have key : ∀ (r : Res), (∀ (b : Bool), ((nextF 12 (dpF l (d0, s2)).2).1 == 12 - 1) = b → r = if b then { val := cutV c, io := [eSrc s'], own := cutR c } else { val := cutV ⟨(dpF l (d0, s2)).1.ss, 0, (dpF l (d0, s2)).1.ps⟩, io := [eSrc (nextF 12 (dpF l (d0, s2)).2).2], own := cutR ⟨(dpF l (d0, s2)).1.ss, 0, (dpF l (d0, s2)).1.ps⟩ }) → E CX 61 [.ptr [0] 0 0] [([0], eSrc s)] = some r := by
    intro r hr
    refine E_fin Tryz.f61 _ an61 rfl rfl rfl Tryz.func61 rfl (by kernel_rfl) ?_
    have dss := hd.g.ss; have dps := hd.g.ps
    simp only [eSrc, ownDisk, ownRows] at e1
    rw [dss] at e1
    simp only [eSrc] at e2
    simp [go_sem, eSrc, e1, e2, dss]
    refine loop_for (fun X => fin CX _ _ X = _) l (fun n (a : Disk × Src) => SrcOK a.2 (k + 1000 + 3 + 9 * n) ∧ Drawn a.1 (20 + n)) (fun n a => ⟨SS [(0, .ptr [0] 0 0), (2, .ptr [2] 0 0), (3, .ptr [3] 0 0), (4, .int .i64 (v - n))], HS [([0], eSrc a.2), ([2], ⟨true, 26, 2, [.agg [.nil, .nil]]⟩), ([3], ⟨true, 26, 2, [eDisk a.1]⟩)]⟩)
      (fun r n a => (.exit 0, ⟨SS [(0, .ptr [0] 0 0), (2, .ptr [2] 0 0), (3, .ptr [3] 0 0)], HS [([0], eSrc (dpF r a).2), ([2], ⟨true, 26, 2, [.agg [.nil, .nil]]⟩), ([3], ⟨true, 26, 2, [eDisk (dpF r a).1]⟩)]⟩)) (d0, s2) ⟨g2, hd⟩ ?_ ?_ ?_ ?_ ?_
    · simp [go_sem, eSrc, eDisk, List.take_of_length_le, dss]
    · intro R n a x r hn hx hd' hI hR
      obtain ⟨hI1, hI2⟩ := hI
      have e6 := dlt_E a.2 _ (by omega) hI1
      obtain ⟨q0, q1, q2, q3, q4⟩ := dltG_ok hI1
      have hgd := hI2.g
      have e7 := l04Put_E a.1 (dltG a.2).1 ⟨hgd.ss, by have := hgd.ps; omega, hgd.at_⟩ (by have := hgd.ps; omega) ⟨q3, q4⟩
      have := hR (putD a.1 (dltG a.2).1.host (5 + (dltG a.2).1.host) (dltT (dltG a.2).1), (dltG a.2).2) ⟨q0.mono (by omega), (putD_drawn hI2 _ _ _ (by omega) (mild_dlt q1 q2)).up (by omega)⟩ (by simp [dpF])
      generalize putD a.1 (dltG a.2).1.host (5 + (dltG a.2).1.host) (dltT (dltG a.2).1) = pd at *
      generalize dltG a.2 = w at *
      simp only [eSrc, eDelta] at e6
      simp only [eDisk, eDelta] at e7
      simp [go_sem, eSrc, eDisk, show v - ((n : Int) + 1) = v - n - 1 by omega] at this
      simp [go_sem, eSrc, eDisk, eDelta, e6, e7, show (n : Int) < v by omega, show (0 : Int) < v - n by omega, wrap_id (n := v - (n : Int) - 1) (by omega)]
      exact this
    · intro a hI
      have : v - (l.length : Int) = 0 := by omega
      simp [go_sem, dpF, eSrc, eDisk, this]
    · intro _; simp
    · generalize dpF l (d0, s2) = z at *
      generalize nextF 12 z.2 = t at *
      simp only [eSrc] at e3 e4
      simp only [eDisk] at e5
      have h := hr _ rfl
      cases hb : (t.1 == 12 - 1)
      · rw [hb] at e3 h
        subst h
        simp [go_sem, eSrc, eDisk, e3, e5, cutV, cutR, f1]
      · rw [hb] at e3 h
        subst h
        have hc1 := hc.len; have hc2 := hc.o
        simp [go_sem, eSrc, eDisk, e3, e4, cutV, cutR]
  cases hb : ((nextF 12 (dpF l (d0, s2)).2).1 == 12 - 1)
  · exact ⟨⟨(dpF l (d0, s2)).1.ss, 0, (dpF l (d0, s2)).1.ps⟩, _, key _ (fun b h => by rw [hb] at h; subst h; rfl), ⟨f1, by simp, hd3.s, by simp only; omega⟩, g4.mono (by omega)⟩
  · exact ⟨c, s', key _ (fun b h => by rw [hb] at h; subst h; rfl), hc, g5.mono (by omega)⟩
end Go.Proofs.YtccoeoppjcegnaaGreat


namespace Go.Proofs.YtccoeoppjcegnaaGreat
open Go
set_option maxRecDepth 100000
set_option maxHeartbeats 2000000
set_option linter.unusedSimpArgs false
set_option linter.unusedVariables false
def ldrG (s : Src) : Leader × Src :=
  if (nextF 3 s).1 == 3 - 1 then (⟨(nextF 3 (nextF 3 s).2).1, -1, 0⟩, (nextF 3 (nextF 3 s).2).2)
  else (⟨1 + (nextF 3 (nextF 3 s).2).1, (nextF 4 (nextF 3 (nextF 3 s).2).2).1, 1 + (nextF 3 (nextF 4 (nextF 3 (nextF 3 s).2).2).2).1⟩, (nextF 3 (nextF 4 (nextF 3 (nextF 3 s).2).2).2).2)
theorem ldrG_ok {s : Src} {k : Nat} (g : SrcOK s k) : SrcOK (ldrG s).2 (k + 12) ∧ ldrOK (ldrG s).1 = true ∧ (ldrG s).1.ver ≤ 3 ∧ -1 ≤ (ldrG s).1.owner ∧ (ldrG s).1.owner ≤ 3 := by
  obtain ⟨g1, a1, b1⟩ := nextF_ok 3 g
  obtain ⟨g2, a2, b2⟩ := nextF_ok 3 g1
  obtain ⟨g3, a3, b3⟩ := nextF_ok 4 g2
  obtain ⟨g4, a4, b4⟩ := nextF_ok 3 g3
  unfold ldrG
  split
  · refine ⟨g2.mono (by omega), ?_, by simp only; omega, by simp, by simp⟩
    simp [ldrOK, inn]; omega
  · refine ⟨g4.mono (by omega), ?_, by simp only; omega, by simp only; omega, by simp only; omega⟩
    simp [ldrOK, inn]; omega
theorem ldr_E (s : Src) (k : Nat) (hk : k ≤ 700000000) (g : SrcOK s k) : E CX 64 [.ptr [0] 0 0] [([0], eSrc s)] = some { val := eLeader (ldrG s).1, io := [eSrc (ldrG s).2] } := by
  obtain ⟨g1, a1, b1⟩ := nextF_ok 3 g
  obtain ⟨g2, a2, b2⟩ := nextF_ok 3 g1
  obtain ⟨g3, a3, b3⟩ := nextF_ok 4 g2
  obtain ⟨g4, a4, b4⟩ := nextF_ok 3 g3
  have e0 := chance_E 3 s k (by omega) (by omega) g
  have e1 := next_E 3 (nextF 3 s).2 (k + 3) (by omega) g1
  have e2 := next_E 4 (nextF 3 (nextF 3 s).2).2 (k + 3 + 3) (by omega) g2
  have e3 := next_E 3 (nextF 4 (nextF 3 (nextF 3 s).2).2).2 (k + 3 + 3 + 3) (by omega) g3
  refine E_fin Tryz.f64 _ an64 rfl rfl rfl Tryz.func64 rfl (by kernel_rfl) ?_
  unfold ldrG
  generalize nextF 3 (nextF 4 (nextF 3 (nextF 3 s).2).2).2 = x4 at *
  generalize nextF 4 (nextF 3 (nextF 3 s).2).2 = x3 at *
  generalize nextF 3 (nextF 3 s).2 = x2 at *
  generalize nextF 3 s = x1 at *
  simp only [eSrc] at e0 e1 e2 e3
  cases hb : (x1.1 == 3 - 1)
  · rw [hb] at e0
    simp [go_sem, eSrc, eLeader, e0, e1, e2, e3, wrap_id (n := 1 + x2.1) (by omega), wrap_id (n := 1 + x4.1) (by omega)]
  · rw [hb] at e0
    simp [go_sem, eSrc, eLeader, e0, e1]
def blG (s : Src) : Bl × Src :=
  let v := nextF 3 s
  let w := nextF 2 v.2
  let m := nextF 12 w.2
  let b := nextF (m.1 + 1) m.2
  let i := nextF 9 b.2
  if 0 < b.1 then (⟨if w.1 = 0 then 0 else v.1, m.1, b.1, i.1⟩, i.2) else (⟨if w.1 = 0 then 0 else v.1, m.1, b.1, 0⟩, b.2)
theorem blG_ok {s : Src} {k : Nat} (g : SrcOK s k) : SrcOK (blG s).2 (k + 15) ∧ blkOK (blG s).1 = true ∧ (blG s).1.mbal ≤ 11 := by
  obtain ⟨g1, a1, b1⟩ := nextF_ok 3 g
  obtain ⟨g2, a2, b2⟩ := nextF_ok 2 g1
  obtain ⟨g3, a3, b3⟩ := nextF_ok 12 g2
  obtain ⟨g4, a4, b4⟩ := nextF_ok ((nextF 12 (nextF 2 (nextF 3 s).2).2).1 + 1) g3
  obtain ⟨g5, a5, b5⟩ := nextF_ok 9 g4
  unfold blG
  simp only
  generalize nextF 9 (nextF ((nextF 12 (nextF 2 (nextF 3 s).2).2).1 + 1) (nextF 12 (nextF 2 (nextF 3 s).2).2).2).2 = x5 at *
  generalize nextF ((nextF 12 (nextF 2 (nextF 3 s).2).2).1 + 1) (nextF 12 (nextF 2 (nextF 3 s).2).2).2 = x4 at *
  generalize nextF 12 (nextF 2 (nextF 3 s).2).2 = x3 at *
  generalize nextF 2 (nextF 3 s).2 = x2 at *
  generalize nextF 3 s = x1 at *
  have hv : inn (if x2.1 = 0 then 0 else x1.1) 0 1000000 = true := by simp [inn]; split <;> omega
  split
  · refine ⟨g5.mono (by omega), ?_, by simp only; omega⟩
    simp only [blkOK, hv, isNum, inn]
    simp; omega
  · refine ⟨g4.mono (by omega), ?_, by simp only; omega⟩
    simp only [blkOK, hv, isNum, inn]
    simp; omega
theorem bl_E (s : Src) (k : Nat) (hk : k ≤ 700000000) (g : SrcOK s k) : E CX 66 [.ptr [0] 0 0] [([0], eSrc s)] = some { val := eBl (blG s).1, io := [eSrc (blG s).2] } := by
  obtain ⟨g1, a1, b1⟩ := nextF_ok 3 g
  obtain ⟨g2, a2, b2⟩ := nextF_ok 2 g1
  obtain ⟨g3, a3, b3⟩ := nextF_ok 12 g2
  obtain ⟨g4, a4, b4⟩ := nextF_ok ((nextF 12 (nextF 2 (nextF 3 s).2).2).1 + 1) g3
  have e1 := next_E 3 s k (by omega) g
  have e2 := next_E 2 (nextF 3 s).2 (k + 3) (by omega) g1
  have e3 := next_E 12 (nextF 2 (nextF 3 s).2).2 (k + 3 + 3) (by omega) g2
  have e4 := next_E ((nextF 12 (nextF 2 (nextF 3 s).2).2).1 + 1) (nextF 12 (nextF 2 (nextF 3 s).2).2).2 (k + 3 + 3 + 3) (by omega) g3
  have e5 := next_E 9 (nextF ((nextF 12 (nextF 2 (nextF 3 s).2).2).1 + 1) (nextF 12 (nextF 2 (nextF 3 s).2).2).2).2 (k + 3 + 3 + 3 + 3) (by omega) g4
  refine E_fin Tryz.f66 _ an66 rfl rfl rfl Tryz.func66 rfl (by kernel_rfl) ?_
  unfold blG
  simp only
  generalize nextF 9 (nextF ((nextF 12 (nextF 2 (nextF 3 s).2).2).1 + 1) (nextF 12 (nextF 2 (nextF 3 s).2).2).2).2 = x5 at *
  generalize nextF ((nextF 12 (nextF 2 (nextF 3 s).2).2).1 + 1) (nextF 12 (nextF 2 (nextF 3 s).2).2).2 = x4 at *
  generalize nextF 12 (nextF 2 (nextF 3 s).2).2 = x3 at *
  generalize nextF 2 (nextF 3 s).2 = x2 at *
  generalize nextF 3 s = x1 at *
  simp only [eSrc] at e1 e2 e3 e4 e5
  have hc : x2.1 = 0 ∨ x2.1 = 1 := by omega
  by_cases c : 0 < x4.1
  · rcases hc with hc | hc
    · simp [go_sem, eSrc, eBl, e1, e2, e3, e4, e5, hc, c, wrap_id (n := x3.1 + 1) (by omega)]
    · simp [go_sem, eSrc, eBl, e1, e2, e3, e4, e5, hc, c, wrap_id (n := x3.1 + 1) (by omega)]
  · rcases hc with hc | hc
    · simp [go_sem, eSrc, eBl, e1, e2, e3, e4, hc, c, wrap_id (n := x3.1 + 1) (by omega)]
    · simp [go_sem, eSrc, eBl, e1, e2, e3, e4, hc, c, wrap_id (n := x3.1 + 1) (by omega)]
theorem l05Encode_E (b : Bl) : E CX 65 [eBl b] [] = some { val := .str (blT b) } := by
  refine E_fin Tryz.f65 _ an65 rfl rfl rfl Tryz.func65 rfl (by kernel_rfl) ?_
  have e1 := l02Seal_E 5 [b.ver, b.mbal, b.bal, b.inp] (by simp)
  simp at e1
  simp [go_sem, eBl, e1, blT]
/-- Blocks that may be drawn into the sectors behind the leader's. -/
def bkF : List Unit → Nat → List Tx × Src → List Tx × Src
  | [], _, a => a
  | _ :: r, n, a => bkF r (n + 1) (if (nextF 3 a.2).1 == 3 - 1 then (a.1.set (1 + n) (blT (blG (nextF 3 a.2).2).1), (blG (nextF 3 a.2).2).2) else (a.1, (nextF 3 a.2).2))
theorem bkF_ok : ∀ (l : List Unit) (n : Nat) (a : List Tx × Src) (k : Nat), SrcOK a.2 k → a.1.length = 64 → (∀ t ∈ a.1, Mild t) → SrcOK (bkF l n a).2 (k + 20 * l.length) ∧ (bkF l n a).1.length = 64 ∧ ∀ t ∈ (bkF l n a).1, Mild t := by
  intro l
  induction l with
  | nil => intro n a k g h1 h2; exact ⟨g, h1, h2⟩
  | cons u l ih =>
    intro n a k g h1 h2
    obtain ⟨g1, a1, b1⟩ := nextF_ok 3 g
    unfold bkF
    simp only [List.length_cons]
    split
    · obtain ⟨g2, q1, q2⟩ := blG_ok g1
      obtain ⟨i1, i2, i3⟩ := ih (n + 1) (a.1.set (1 + n) (blT (blG (nextF 3 a.2).2).1), (blG (nextF 3 a.2).2).2) (k + 3 + 15) g2 (by simpa using h1) (by
        intro t ht
        rcases List.mem_or_eq_of_mem_set ht with ht | rfl
        · exact h2 t ht
        · exact mild_bl q1 q2)
      exact ⟨i1.mono (by omega), i2, i3⟩
    · obtain ⟨i1, i2, i3⟩ := ih (n + 1) (a.1, (nextF 3 a.2).2) (k + 3) g1 h1 h2
      exact ⟨i1.mono (by omega), i2, i3⟩
theorem leaseD_E (s : Src) (k : Nat) (hk : k ≤ 200000000) (g : SrcOK s k) : ∃ c s', E CX 22 [.ptr [0] 0 0] [([0], eSrc s)] = some { val := cutV c, io := [eSrc s'], own := cutR c } ∧ CutOK c := by
  obtain ⟨c, s1, e1, hc, g1⟩ := deltaDisk_E s k (by omega) g
  obtain ⟨ss, o, ps⟩ := c
  have h1 := hc.len; have h2 := hc.o; have h3 := hc.s; have h4 := hc.p
  simp only at h1 h2 h3 h4
  simp only [eSrc, cutV, cutR] at e1
  by_cases c1 : o = 1
  · subst c1
    refine ⟨⟨ss, 1, ps⟩, s1, ?_, hc⟩
    refine E_fin Tryz.f22 _ an22 rfl rfl rfl Tryz.func22 rfl (by kernel_rfl) ?_
    simp at e1
    simp [go_sem, eSrc, cutV, cutR, e1]
  · obtain rfl : o = 0 := by omega
    simp at e1
    have e2 := chance_E 2 s1 (k + 4000) (by omega) (by omega) g1
    obtain ⟨g2, a2, b2⟩ := nextF_ok 2 g1
    have e3 := ldr_E (nextF 2 s1).2 (k + 4000 + 3) (by omega) g2
    obtain ⟨g3, q1, q2, q3, q4⟩ := ldrG_ok g2
    have e4 := l06Encode_E (ldrG (nextF 2 s1).2).1 (wrap_id (by omega))
    -- behind the leader
    let st : List Tx × Src := if (nextF 2 s1).1 == 2 - 1 then (ss.set 0 (ldrT (ldrG (nextF 2 s1).2).1), (ldrG (nextF 2 s1).2).2) else (ss, (nextF 2 s1).2)
    have hst : SrcOK st.2 (k + 4100) ∧ st.1.length = 64 ∧ ∀ t ∈ st.1, Mild t := by
      by_cases hc : ((nextF 2 s1).1 == 2 - 1) = true
      · have hs : st = (ss.set 0 (ldrT (ldrG (nextF 2 s1).2).1), (ldrG (nextF 2 s1).2).2) := by simp only [st]; rw [if_pos hc]
        rw [hs]
        refine ⟨g3.mono (by omega), by simpa using h1, fun t ht => ?_⟩
        rcases List.mem_or_eq_of_mem_set ht with ht | rfl
        · exact h3 t ht
        · exact mild_ldr q1 q2
      · have hs : st = (ss, (nextF 2 s1).2) := by simp only [st]; rw [if_neg hc]
        rw [hs]
        exact ⟨g2.mono (by omega), h1, h3⟩
    have hfin := bkF_ok [(), (), (), ()] 0 st (k + 4100) hst.1 hst.2.1 hst.2.2
    refine ⟨⟨(bkF [(), (), (), ()] 0 st).1, 0, ps⟩, (bkF [(), (), (), ()] 0 st).2, ?_, ⟨hfin.2.1, by simp, hfin.2.2, h4⟩⟩
    have hl4 : ([(), (), (), ()] : List Unit).length = 4 := rfl
    generalize hl : ([(), (), (), ()] : List Unit) = l at *
    have loop : ∀ (b : Bool), ((nextF 2 s1).1 == 2 - 1) = b → E CX 22 [.ptr [0] 0 0] [([0], eSrc s)] = some { val := cutV ⟨(bkF l 0 st).1, 0, ps⟩, io := [eSrc (bkF l 0 st).2], own := cutR ⟨(bkF l 0 st).1, 0, ps⟩ } := by
      intro b hb
      have hs : st = if b then (ss.set 0 (ldrT (ldrG (nextF 2 s1).2).1), (ldrG (nextF 2 s1).2).2) else (ss, (nextF 2 s1).2) := by rw [← hb]
      clear_value st
      refine E_fin Tryz.f22 _ an22 rfl rfl rfl Tryz.func22 rfl (by kernel_rfl) ?_
      rw [hb] at e2
      generalize hx2 : nextF 2 s1 = x2 at *
      simp only [eSrc] at e2 e3
      generalize ldrG x2.2 = lg at *
      generalize hlt : ldrT lg.1 = lt at *
      simp only [eLeader] at e3 e4
      cases b
      all_goals
        simp [go_sem, eSrc, eLeader, e1, e2, e3, e4, h1]
        refine loop_for (fun X => fin CX _ _ X = _) l (fun n (a : List Tx × Src) => SrcOK a.2 (k + 4100 + 20 * n) ∧ a.1.length = 64) (fun n a => ⟨SS [(0, .ptr [0] 0 0), (2, .ptr [2] 0 0), (3, .ptr [3] 0 0), (4, .int .i64 n)], HS [([0], eSrc a.2), ([2], ⟨true, 26, 2, [.agg [.nil, .nil]]⟩), ([3], ⟨true, 26, 2, [.agg [.ref [60] 0 64, .ref [61] 0 ps.length]]⟩), ([60], ⟨false, 9, 1, a.1.map .str⟩), ([61], ⟨false, 78, 3, ps.map eIo⟩)]⟩)
          (fun r n a => (.exit 0, ⟨SS [(2, .ptr [2] 0 0), (3, .ptr [3] 0 0)], HS [([2], ⟨true, 26, 2, [.agg [.nil, .nil]]⟩), ([3], ⟨true, 26, 2, [.agg [.ref [60] 0 64, .ref [61] 0 ps.length]]⟩), ([60], ⟨false, 9, 1, (bkF r n a).1.map .str⟩), ([61], ⟨false, 78, 3, ps.map eIo⟩), ([0], eSrc (bkF r n a).2)]⟩)) st ⟨hst.1, hst.2.1⟩ ?_ ?_ ?_ ?_ ?_
        · rw [hs]; simp [go_sem, eSrc, List.map_set]
        · intro R n a x r hn hx hd' hI hR
          obtain ⟨hI1, hI2⟩ := hI
          have f1 := chance_E 3 a.2 _ (by omega) (by omega) hI1
          obtain ⟨g5, a5, b5⟩ := nextF_ok 3 hI1
          have f2 := bl_E (nextF 3 a.2).2 _ (by omega) g5
          obtain ⟨g6, q5, q6⟩ := blG_ok g5
          have f3 := l05Encode_E (blG (nextF 3 a.2).2).1
          have := hR (if (nextF 3 a.2).1 == 3 - 1 then (a.1.set (1 + n) (blT (blG (nextF 3 a.2).2).1), (blG (nextF 3 a.2).2).2) else (a.1, (nextF 3 a.2).2)) (by
            split
            · exact ⟨g6.mono (by omega), by simpa using hI2⟩
            · exact ⟨g5.mono (by omega), hI2⟩) (by simp only [bkF])
          generalize nextF 3 a.2 = x3 at *
          generalize blG x3.2 = bg at *
          generalize blT bg.1 = bt at *
          simp only [eSrc] at f1 f2
          simp only [eBl] at f2 f3
          cases hb3 : (x3.1 == 3 - 1)
          · rw [hb3] at f1 this
            simp [go_sem, eSrc] at this
            simp [go_sem, eSrc, f1, show (n : Int) < 4 by omega, wrap_id (n := (n : Int) + 1) (by omega)]
            exact this
          · rw [hb3] at f1 this
            simp [go_sem, eSrc, List.map_set] at this
            have tn : (1 + (n : Int)).toNat = 1 + n := by omega
            simp [go_sem, eSrc, eBl, f1, f2, f3, hI2, tn, show (n : Int) < 4 by omega, show 1 + (n : Int) < 64 by omega, show (0 : Int) ≤ 1 + n by omega, show 1 + n < 64 by omega, wrap_id (n := (n : Int) + 1) (by omega), wrap_id (n := 1 + (n : Int)) (by omega)]
            exact this
        · intro a hI; simp [go_sem, bkF, eSrc, hl4]
        · intro _; simp
        · simp [go_sem, eSrc, cutV, cutR]
    exact loop _ rfl
theorem leaseDisk_E (bs : List Int) (h : bs.length ≤ 1073741824) (hb : ∀ b ∈ bs, 0 ≤ b ∧ b < 256) : ∃ ss, diskOK ⟨ss, []⟩ = true ∧ (∀ t ∈ ss, Mild t) ∧
    (E CX 5 [.sl 1 (bs.map (.int .u8))] [] = some { val := .agg [.sl 1 (ss.map .str), .sl 3 []] } ∨ E CX 5 [.sl 1 (bs.map (.int .u8))] [] = some { val := .agg [.sl 1 (ss.map .str), .ref [0, 0, 0, 0] 0 0], own := [⟨false, 78, 3, []⟩] }) := by
  have e1 := l00Source_E bs h
  have g := source_ok bs h hb
  obtain ⟨c, s', e2, hc⟩ := leaseD_E _ 0 (by omega) g
  obtain ⟨ss, o, ps⟩ := c
  have h1 := hc.len; have h2 := hc.o; have h3 := hc.s; have h4 := hc.p
  simp only at h1 h2 h3 h4
  have e3 := l01New_E
  have hE : E64.map AV.str = List.replicate 64 (.str []) := by simp [E64, -List.reduceReplicate]
  simp only [eSrc, cutV, cutR] at e1 e2
  rw [show ((0 : Nat) : Int) = 0 from rfl] at e1 e2
  by_cases c1 : o = 1
  · subst c1
    refine ⟨E64, d64_ok, fun t ht => by simp [E64] at ht; subst ht; exact mild_nil, .inl ?_⟩
    simp at e2
    refine E_fin Tryz.f5 _ an5 rfl rfl rfl Tryz.func5 rfl (by kernel_rfl) ?_
    simp [go_sem, e1, e2, e3, h1, hE, -List.reduceReplicate]
  · obtain rfl : o = 0 := by omega
    simp at e2
    have e4 := sDiskOK_E ⟨ss, ps⟩ (by simp only; omega) (by simp only; omega)
    have e5 := l01Own_E ⟨ss, ps⟩ (by simp only; omega) (by simp only; omega)
    simp only [eDisk] at e4 e5
    cases hd : diskOK ⟨ss, ps⟩
    · rw [hd] at e4
      refine ⟨E64, d64_ok, fun t ht => by simp [E64] at ht; subst ht; exact mild_nil, .inl ?_⟩
      refine E_fin Tryz.f5 _ an5 rfl rfl rfl Tryz.func5 rfl (by kernel_rfl) ?_
      simp [go_sem, e1, e2, e3, e4, h1, hE, -List.reduceReplicate]
    · rw [hd] at e4
      obtain ⟨a1, a2, a3, a4⟩ := diskOK_iff.1 hd
      refine ⟨ss, diskOK_iff.2 ⟨a1, a2, by simp, by simp⟩, h3, .inr ?_⟩
      refine E_fin Tryz.f5 _ an5 rfl rfl rfl Tryz.func5 rfl (by kernel_rfl) ?_
      simp [go_sem, e1, e2, e3, e4, e5, h1]
end Go.Proofs.YtccoeoppjcegnaaGreat


namespace Go.Proofs.YtccoeoppjcegnaaGreat
open Go
set_option maxRecDepth 100000
set_option maxHeartbeats 4000000
set_option linter.unusedSimpArgs false
set_option linter.unusedVariables false
/-- A write that a step makes turns the own block. -/
structure Wr (s : ES) : Prop where
  two : s.p.phase = 3 → (s.bs.getD s.p.host.toNat zBl).ver = s.p.ver ∧ (s.bs.getD s.p.host.toNat zBl).bal ≠ s.p.ballot
  mid : s.p.phase = 2 → (s.bs.getD s.p.host.toNat zBl).ver = s.p.ver ∧ (s.bs.getD s.p.host.toNat zBl).bal ≠ s.p.ballot
  one : s.p.phase = 1 → s.p.ballot ≠ 0 ∧ ((s.bs.getD s.p.host.toNat zBl).mbal ≠ s.p.ballot → (s.bs.getD s.p.host.toNat zBl).bal ≠ s.p.ballot ∨ s.p.ballot < (s.bs.getD s.p.host.toNat zBl).mbal)
def wrote (p q : Px) : Bool := decide (q.phase = 2) && decide (p.phase = 1) || decide (q.phase = 4) && decide (p.phase = 3)
theorem finP_ph (q : Px) (h : q.phase = 2 ∨ q.phase = 4) : (finP q).phase = q.phase ∨ (finP q).phase = 5 ∨ (finP q).phase = 3 := by
  unfold finP
  split
  · exact .inl rfl
  · split
    · exact .inr (.inl rfl)
    · exact .inr (.inr rfl)
theorem finP_keep (q : Px) : (finP q).host = q.host ∧ (finP q).ver = q.ver ∧ (finP q).ballot = q.ballot := by
  unfold finP
  split
  · exact ⟨rfl, rfl, rfl⟩
  · split <;> exact ⟨rfl, rfl, rfl⟩
theorem readP_keep (p : Px) (bs : List Bl) : (readP p bs).host = p.host ∧ (readP p bs).ver = p.ver ∧ (readP p bs).ballot = p.ballot := by
  unfold readP
  split
  · unfold readB
    split
    · exact ⟨rfl, rfl, rfl⟩
    · exact finP_keep _
  · exact finP_keep _
theorem readP_ph (p : Px) (bs : List Bl) (h : p.phase = 2 ∨ p.phase = 4) : (readP p bs).phase = p.phase ∨ (readP p bs).phase = 5 ∨ (readP p bs).phase = 3 ∨ (readP p bs).phase = 6 := by
  unfold readP
  split
  · unfold readB
    split
    · exact .inr (.inr (.inr rfl))
    · rcases finP_ph _ (show ({ p with next := if nx0 p + 1 = p.host then nx0 p + 1 + 1 else nx0 p + 1, best := if p.phase ≠ 4 ∧ p.bestBal < (ofV (bs.getD (nx0 p).toNat zBl) p.ver).bal then (ofV (bs.getD (nx0 p).toNat zBl) p.ver).inp else p.best, bestBal := if p.phase ≠ 4 ∧ p.bestBal < (ofV (bs.getD (nx0 p).toNat zBl) p.ver).bal then (ofV (bs.getD (nx0 p).toNat zBl) p.ver).bal else p.bestBal } : Px).phase = 2 ∨ _ from h) with h | h | h
      · exact .inl h
      · exact .inr (.inl h)
      · exact .inr (.inr (.inl h))
  · rcases finP_ph _ (show ({ p with next := nx0 p } : Px).phase = 2 ∨ _ from h) with h | h | h
    · exact .inl h
    · exact .inr (.inl h)
    · exact .inr (.inr (.inl h))
theorem finP_four (q : Px) (h : q.phase = 4) : (finP q).phase ≠ 3 := by
  unfold finP
  split
  · omega
  · simp
theorem readP_four (p : Px) (bs : List Bl) (h : p.phase = 4) : (readP p bs).phase ≠ 3 := by
  unfold readP
  split
  · unfold readB
    split
    · simp
    · exact finP_four _ h
  · exact finP_four _ h
theorem ofV_cases (b : Bl) (v : Int) : (b.ver < v ∧ ofV b v = ⟨v, 0, 0, 0⟩) ∨ (¬ b.ver < v ∧ ofV b v = b) := by
  unfold ofV
  by_cases h : b.ver < v
  · exact .inl ⟨h, if_pos h⟩
  · exact .inr ⟨h, if_neg h⟩
/-- The own block turns where the reference writes it, and nowhere else. -/
theorem wr_step {h : Int} {s : ES} (g : ESIn h s) (wv : Wr s) (ho : over s.p = false) :
    Wr (stE s) ∧ ((stepP s.p s.bs).2.getD s.p.host.toNat zBl = s.bs.getD s.p.host.toNat zBl ↔ wrote s.p (stepP s.p s.bs).1 = false) := by
  have g1 := g.len; have g2 := g.host; have g3 := g.h0; have g4 := g.h3
  simp [over] at ho
  have hlt : s.p.host.toNat < s.bs.length := by omega
  have hph := g.p1; have hph6 := g.p6
  by_cases hw : s.p.phase = 1 ∨ s.p.phase = 3
  · cases hs : stopW s.p (ownB s.p s.bs)
    · -- it writes
      have e : stepP s.p s.bs = ((writeP s.p (ownB s.p s.bs)).1, s.bs.set s.p.host.toNat (writeP s.p (ownB s.p s.bs)).2) := by
        unfold stepP; rw [if_pos hw, hs]; rfl
      have hget : (s.bs.set s.p.host.toNat (writeP s.p (ownB s.p s.bs)).2).getD s.p.host.toNat zBl = (writeP s.p (ownB s.p s.bs)).2 := by
        rw [List.getD_eq_getElem?_getD, List.getElem?_set_self hlt]; rfl
      unfold stE
      rw [e]
      simp only
      rw [hget]
      simp only [stopW, Bool.or_eq_false_iff, decide_eq_false_iff_not] at hs
      obtain ⟨⟨s1, s2⟩, s3⟩ := hs
      have hob : ownB s.p s.bs = ofV (s.bs.getD s.p.host.toNat zBl) s.p.ver := rfl
      rcases hw with c | c
      · -- the first write
        have c3 : ¬ s.p.phase = 3 := by omega
        have s3' : ¬ (ownB s.p s.bs).mbal = s.p.ballot := by simpa [c3] using s3
        obtain ⟨o1, o2⟩ := wv.one c
        have ev : (ownB s.p s.bs).ver = s.p.ver := by have := ofV_ver (s.bs.getD s.p.host.toNat zBl) s.p.ver; rw [← hob] at this; omega
        have eb : (ownB s.p s.bs).bal ≠ s.p.ballot := by
          rcases ofV_cases (s.bs.getD s.p.host.toNat zBl) s.p.ver with ⟨_, h2⟩ | ⟨_, h2⟩
          · rw [hob, h2]; simp only; omega
          · rw [hob, h2] at s3' s2 ⊢
            rcases o2 s3' with h | h
            · exact h
            · exact absurd h s2
        refine ⟨⟨?_, ?_, ?_⟩, ?_⟩
        · intro h; simp [writeP, c3] at h
        · intro _; simp only [writeP, c3, if_false]; rw [List.getD_eq_getElem?_getD, List.getElem?_set_self (by simpa using hlt)]; exact ⟨ev, eb⟩
        · intro h; simp [writeP, c3] at h
        · have hwr : wrote s.p (writeP s.p (ownB s.p s.bs)).1 = true := by simp [wrote, writeP, c3, c]
          rw [hwr]
          constructor
          · intro h
            exfalso
            have hm := congrArg Bl.mbal h
            have hv := congrArg Bl.ver h
            simp only [writeP, c3, if_false] at hm hv
            rcases ofV_cases (s.bs.getD s.p.host.toNat zBl) s.p.ver with ⟨h1, h2⟩ | ⟨_, h2⟩
            · omega
            · rw [hob, h2] at s3'; omega
          · intro h; cases h
      · -- the second one
        obtain ⟨o1, o2⟩ := wv.two c
        have eo : ownB s.p s.bs = s.bs.getD s.p.host.toNat zBl := by
          rcases ofV_cases (s.bs.getD s.p.host.toNat zBl) s.p.ver with ⟨h1, _⟩ | ⟨_, h2⟩
          · omega
          · exact h2
        refine ⟨⟨?_, ?_, ?_⟩, ?_⟩
        · intro h; simp [writeP, c] at h
        · intro h; simp [writeP, c] at h
        · intro h; simp [writeP, c] at h
        · have hwr : wrote s.p (writeP s.p (ownB s.p s.bs)).1 = true := by simp [wrote, writeP, c]
          rw [hwr]
          constructor
          · intro h
            exfalso
            have hm := congrArg Bl.bal h
            simp only [writeP, c, if_true] at hm
            exact o2 hm.symm
          · intro h; cases h
    · have e : stepP s.p s.bs = ({ s.p with phase := 6 }, s.bs) := by
        unfold stepP; rw [if_pos hw, hs]; rfl
      unfold stE
      rw [e]
      refine ⟨⟨?_, ?_, ?_⟩, ?_⟩
      · intro h; simp at h
      · intro h; simp at h
      · intro h; simp at h
      · simp [wrote]
  · have e : stepP s.p s.bs = (readP s.p s.bs, s.bs) := by unfold stepP; rw [if_neg hw]
    have h24 : s.p.phase = 2 ∨ s.p.phase = 4 := by omega
    obtain ⟨k1, k2, k3⟩ := readP_keep s.p s.bs
    have hph := readP_ph s.p s.bs h24
    have hin := stepP_in g (by simp [over, ho])
    rw [e] at hin
    simp only at hin
    unfold stE
    rw [e]
    simp only
    refine ⟨⟨?_, ?_, ?_⟩, ?_⟩
    · intro h
      simp only at h ⊢
      rw [k1, k2, k3]
      have c2 : s.p.phase = 2 := by
        rcases h24 with c | c
        · exact c
        · exfalso
          -- behind the second read comes the end
          have : (readP s.p s.bs).phase ≠ 3 := readP_four _ _ c
          exact this h
      exact wv.mid c2
    · intro h
      simp only at h ⊢
      rw [k1, k2, k3]
      have c2 : s.p.phase = 2 := by
        rcases hph with c | c | c | c <;> omega
      exact wv.mid c2
    · intro h
      simp only at h
      rcases hph with c | c | c | c <;> omega
    · have hwr : wrote s.p (readP s.p s.bs) = false := by
        have c1 : ¬ s.p.phase = 1 := by omega
        have c3 : ¬ s.p.phase = 3 := by omega
        simp [wrote, c1, c3]
      simp [hwr]
theorem wr_es0 {d : Disk} {h owner gen : Int} (hh : 0 ≤ h ∧ h ≤ 3) (hb : 0 < nextB h ((rdLd d h).ver + 1) (blks d h)) : Wr (es0 d h owner gen) := by
  refine ⟨fun h => by simp [es0, px0] at h, fun h => by simp [es0, px0] at h, fun _ => ⟨by simp only [es0, px0]; omega, fun hm => ?_⟩⟩
  simp only [es0, px0] at hm ⊢
  have hk : ∀ b ∈ blks d h, b.bal ≤ b.mbal := by
    intro b hb
    simp only [blks, List.mem_cons, List.not_mem_nil, or_false] at hb
    rcases hb with rfl | rfl | rfl | rfl
    · exact (rdB_ok d h 0).2.2.2
    · exact (rdB_ok d h 1).2.2.2
    · exact (rdB_ok d h 2).2.2.2
    · exact (rdB_ok d h 3).2.2.2
  have hlen : (blks d h).length = 4 := rfl
  have hmem : (blks d h).getD h.toNat zBl ∈ blks d h := by
    rw [getD_at (by omega)]; exact List.getElem_mem _
  have := hk _ hmem
  generalize nextB h ((rdLd d h).ver + 1) (blks d h) = B at *
  by_cases c : B < ((blks d h).getD h.toNat zBl).mbal
  · exact .inr c
  · left; omega
theorem l06Blocks_E (d : Disk) (h : Int) (hd : diskOK d = true) : E CX 81 [eDisk d, .int .i64 h] [] = some { val := .ref [0, 0, 0, 0] 0 4, own := [⟨false, 63, 4, (blks d h).map eBl⟩] } := by
  have g := diskOK_good hd
  have g1 := g.ss; have g2 := g.ps
  have er : ∀ i : Int, 0 ≤ i ∧ i ≤ 3 → E CX 110 [eDisk d, .int .i64 h, .int .i64 (1 + i)] [] = some { val := .str (rdL d.ss d.ps h (1 + i)) } := fun i hi => l01Read_E d h (1 + i) (by omega) (by omega)
  have eb : ∀ i : Int, 0 ≤ i ∧ i ≤ 3 → E CX 111 [.str (rdL d.ss d.ps h (1 + i))] [] = some { val := .tuple [eBl (rdB d h i), .bool (blF (rdL d.ss d.ps h (1 + i))).isSome] } := fun i hi => by
    have := l05Decode_E (rdL d.ss d.ps h (1 + i)) (by have := rdL_len hd h (1 + i); omega)
    rw [blV_eq] at this
    exact this
  simp only [eDisk] at er
  refine E_fin Tryz.f81 _ an81 rfl rfl rfl Tryz.func81 rfl (by kernel_rfl) ?_
  simp [go_sem, eDisk]
  refine loop_for (fun X => fin CX _ _ X = _) [(0 : Int), 1, 2, 3] (fun n (a : List Bl) => a.length = n) (fun n a => ⟨SS [(1, .int .i64 h), (2, .ptr [2] 0 0), (5, .ref [9] 0 a.length), (6, .int .i64 n)],
      HS [([2], ⟨true, 26, 2, [eDisk d]⟩), ([9], ⟨false, 63, 4, a.map eBl⟩)]⟩)
    (fun r n a => (.exit 0, ⟨SS [(5, .ref [9] 0 (a ++ r.map (rdB d h)).length)], HS [([9], ⟨false, 63, 4, (a ++ r.map (rdB d h)).map eBl⟩)]⟩)) [] rfl ?_ ?_ ?_ ?_ ?_
  · simp [go_sem, eDisk]
  · intro R n a x r hn hx hd' hI hR
    have hx := hx hn
    simp only [List.length_cons, List.length_nil] at hn
    have hxn : x = (n : Int) := by
      rw [← hx]
      have : n = 0 ∨ n = 1 ∨ n = 2 ∨ n = 3 := by omega
      rcases this with rfl | rfl | rfl | rfl <;> rfl
    subst hxn
    have e7 := er (n : Int) (by omega)
    have e8 := eb (n : Int) (by omega)
    have := hR (a ++ [rdB d h n]) (by simp [hI]) (by simp)
    simp [go_sem, eDisk, eBl] at this
    simp only [eBl] at e8
    simp [go_sem, eDisk, eBl, e7, e8, show (n : Int) < 4 by omega, wrap_id (n := 1 + (n : Int)) (by omega), wrap_id (n := (n : Int) + 1) (by omega), show a.length + 1 ≤ 1073741824 by omega]
    exact this
  · intro a hI; simp at hI; simp [go_sem, eDisk]
  · intro _; simp
  · have hbl : [(0 : Int), 1, 2, 3].map (rdB d h) = blks d h := rfl
    simp only [List.nil_append, hbl]
    simp [go_sem, blks]
section
variable (d : Disk) (h owner gen : Int) (hd : diskOK d = true) (hh : 0 ≤ h ∧ h ≤ 3) (hr : d.ps.length < 200) (ho : inn owner 0 3 = true) (hg : inn gen 1 1000000 = true) (hv : (rdLd d h).ver + 1 ≤ 1000000) (hb : nextB h ((rdLd d h).ver + 1) (blks d h) ≤ 1000000)
include hd hh hr ho hg hv hb
theorem l06Elect_E : E CX 46 [eDisk d, .int .i64 h, .int .i64 owner, .int .i64 gen] [] = some { val := .tuple [eDisk (electA d h owner gen).1, eLeader (electA d h owner gen).2.1, .int .i64 (electA d h owner gen).2.2] } := by
  have g := diskOK_good hd
  have g1 := g.ss; have g2 := g.ps
  have e6 := l06Read_E d h hd
  obtain ⟨v1, v2, v3⟩ := rdLd_ver d h
  have o1 : 0 ≤ owner ∧ owner ≤ 3 := by simpa [inn] using ho
  have o2 : 1 ≤ gen ∧ gen ≤ 1000000 := by simpa [inn] using hg
  have e8 := l06Blocks_E d h hd
  have e9 := l05Next_E h ((rdLd d h).ver + 1) (blks d h) hh (by simp [blks]) (blks_mbal d h)
  have bpos : 0 < nextB h ((rdLd d h).ver + 1) (blks d h) := by
    have hm := maxM_bound ((rdLd d h).ver + 1) (blks d h) 0 (by omega) (blks_mbal d h)
    unfold nextB
    rw [Int.tdiv_eq_ediv_of_nonneg hm.1]
    omega
  have hin : ESIn h (es0 d h owner gen) := es0_in hd hh hr
  have hwr : Wr (es0 d h owner gen) := wr_es0 hh bpos
  have hfin := runE_in (h := h) 40 _ hin
  have hov := runE_ends (h := h) 40 _ hin (by simp [es0, px0, mu])
  have hvv := (runE_v 40 _ (es0_v (d := d) (h := h) o1 o2)).val
  unfold electA
  have hblk : (blks d h).length = 4 := rfl
  generalize hL : rdLd d h = L at *
  have hs0 : es0 d h owner gen = ⟨d, px0 h (L.ver + 1) (nextB h (L.ver + 1) (blks d h)) (1024 * gen + owner), blks d h⟩ := by simp [es0, hL]
  generalize hB : nextB h (L.ver + 1) (blks d h) = B at *
  have w1 := wrap_id (n := L.ver + 1) (by omega)
  have w2 := wrap_id (n := 1024 * gen) (by omega)
  have w3 := wrap_id (n := 1024 * gen + owner) (by omega)
  simp only [eDisk, eLeader] at e6 e8
  have nb : ¬ (1000000 : Int) < B := by omega
  have nv : ¬ (1000000 : Int) < L.ver + 1 := by omega
  refine E_fin Tryz.f46 _ an46 rfl rfl rfl Tryz.func46 rfl (by kernel_rfl) ?_
  simp [go_sem, eDisk, eLeader, hblk, e6, e8, e9, nb, nv, w1, w2, w3]
  refine loop_at (fun X => fin CX _ _ X = _) (fun s : ES => ESIn h s ∧ Wr s) (fun s => ⟨SS [(1, .int .i64 h), (4, .ptr [4] 0 0), (8, .ptr [8] 0 0), (9, .ptr [9] 0 0), (11, .ptr [11] 0 0), (12, .int .i64 (L.ver + 1)), (13, .sl 4 (s.bs.map eBl)), (15, .ptr [15] 0 0)],
      HS [([4], ⟨true, 26, 2, [eDisk s.d]⟩), ([8], ⟨true, 26, 2, [.agg [.nil, .nil]]⟩), ([9], ⟨true, 30, 3, [.agg [.int .i64 0, .int .i64 0, .int .i64 0]]⟩), ([11], ⟨true, 30, 3, [eLeader L]⟩), ([15], ⟨true, 69, 8, [ePx s.p]⟩)]⟩)
    (fun s => (.exit 0, ⟨SS [(1, .int .i64 h), (4, .ptr [4] 0 0), (8, .ptr [8] 0 0), (9, .ptr [9] 0 0), (11, .ptr [11] 0 0), (12, .int .i64 (L.ver + 1)), (15, .ptr [15] 0 0)],
      HS [([4], ⟨true, 26, 2, [eDisk (runE 40 s).d]⟩), ([8], ⟨true, 26, 2, [.agg [.nil, .nil]]⟩), ([9], ⟨true, 30, 3, [.agg [.int .i64 0, .int .i64 0, .int .i64 0]]⟩), ([11], ⟨true, 30, 3, [eLeader L]⟩), ([15], ⟨true, 69, 8, [ePx (runE 40 s).p]⟩)]⟩)) (fun s => mu s.p) (es0 d h owner gen) ⟨hin, hwr⟩ ?_ ?_ ?_
  · rw [hs0]; simp [go_sem, eDisk, eLeader, ePx, px0]
  · rintro s ⟨gI, wI⟩
    have hst : s.p.host = h := gI.host
    have gp : PxIn s.p s.bs := ⟨gI.len, by rw [hst]; exact hh, by have := gI.n0; have := gI.n5; omega⟩
    cases hov' : over s.p
    · obtain ⟨gN, hlt⟩ := stE_in gI hov'
      obtain ⟨wN, hiff⟩ := wr_step gI wI hov'
      have hrun := runE_step gI hov'
      have p14 : 1 ≤ s.p.phase ∧ s.p.phase ≤ 4 := by
        have := gI.p1; have := gI.p6
        simp [over] at hov'
        omega
      have s2 := l05Step_E s.p s.bs gp p14
      have sl := (stepP_in gI hov').2.1
      have h4 : h.toNat < 4 := by omega
      have hl1 : h.toNat < s.bs.length := by have := gI.len; omega
      have hl2 : h.toNat < (stepP s.p s.bs).2.length := by omega
      have hEq : stE s = ⟨if (stepP s.p s.bs).2[h.toNat] = s.bs[h.toNat] then s.d else putD s.d h (1 + h) (blT (stepP s.p s.bs).2[h.toNat]), (stepP s.p s.bs).1, (stepP s.p s.bs).2⟩ := by
        simp [stE, hst, hl1, hl2]
      rw [hst, getD_at hl1, getD_at hl2] at hiff
      have s3 := l05Encode_E (stepP s.p s.bs).2[h.toNat]
      have gd := diskOK_good gI.ok
      have s4 := l01Write_E s.d ⟨h, 1 + h, blT (stepP s.p s.bs).2[h.toNat]⟩ (by have := gd.ps; omega)
      have s5 := l01Flush_E ⟨s.d.ss, s.d.ps ++ [⟨h, 1 + h, blT (stepP s.p s.bs).2[h.toNat]⟩]⟩ h ⟨gd.ss, by have := gd.ps; simp; omega, by
        intro y hy
        simp only [List.mem_append, List.mem_singleton] at hy
        rcases hy with hy | rfl
        · exact gd.at_ y hy
        · simp only; omega⟩
      have hrm : settleD ⟨s.d.ss, s.d.ps ++ [⟨h, 1 + h, blT (stepP s.p s.bs).2[h.toNat]⟩]⟩ h 200 false = putD s.d h (1 + h) (blT (stepP s.p s.bs).2[h.toNat]) := by
        unfold putD; exact settle_room _ _ _ _ _ (by have := gI.room; simp; omega) (by have := gI.room; simp; omega)
      rw [hrm] at s5
      have c1' : s.p.phase < 5 := by omega
      simp only [stepS, ePx] at s2
      generalize stepP s.p s.bs = q at *
      generalize hx : s.bs[h.toNat] = x at *
      generalize hy : q.2[h.toNat] = y at *
      generalize putD s.d h (1 + h) (blT y) = pd at *
      generalize blT y = tx at *
      simp only [eBl] at s3
      simp only [eDisk, eIo] at s4 s5
      simp [eIo] at s4 s5
      have hw1 : wrote s.p q.1 = false ∨ wrote s.p q.1 = true := by cases wrote s.p q.1 <;> simp
      rcases hw1 with hw1 | hw1
      · have hq : y = x := hiff.2 hw1
        rw [if_pos hq] at hEq
        rw [hEq] at gN hlt hrun wN
        simp only [wrote, Bool.or_eq_false_iff, Bool.and_eq_false_iff, decide_eq_false_iff_not] at hw1
        obtain ⟨hw1, hw2⟩ := hw1
        by_cases f2 : q.1.phase = 2
        · have f1 : ¬ s.p.phase = 1 := hw1.resolve_left (fun h => h f2)
          simp [go_sem, eDisk, eLeader, ePx, eBl, s2, c1', sl, f2, f1]
          exact ⟨⟨s.d, q.1, q.2⟩, ⟨gN, wN⟩, hlt, by simp [go_sem, eDisk, eLeader, ePx, eBl, f2], by rw [hrun]⟩
        · by_cases f4 : q.1.phase = 4
          · have f3 : ¬ s.p.phase = 3 := hw2.resolve_left (fun h => h f4)
            simp [go_sem, eDisk, eLeader, ePx, eBl, s2, c1', sl, f4, f3]
            exact ⟨⟨s.d, q.1, q.2⟩, ⟨gN, wN⟩, hlt, by simp [go_sem, eDisk, eLeader, ePx, eBl, f4], by rw [hrun]⟩
          · simp [go_sem, eDisk, eLeader, ePx, eBl, s2, c1', sl, f2, f4]
            exact ⟨⟨s.d, q.1, q.2⟩, ⟨gN, wN⟩, hlt, by simp [go_sem, eDisk, eLeader, ePx, eBl], by rw [hrun]⟩
      · have hq : ¬ y = x := fun h => by rw [hiff.1 h] at hw1; cases hw1
        rw [if_neg hq] at hEq
        rw [hEq] at gN hlt hrun wN
        simp only [wrote, Bool.or_eq_true, Bool.and_eq_true, decide_eq_true_eq] at hw1
        have pss : pd.ss.length = 64 := (diskOK_good gN.ok).ss
        rcases hw1 with ⟨f2, f1⟩ | ⟨f4, f3⟩
        · rw [f1] at s2
          simp [go_sem, eDisk, eLeader, ePx, eBl, eIo, s2, s3, s4, s5, hh.1, h4, hl2, hy, sl, f2, f1, wrap_id (n := 1 + h) (by omega)]
          exact ⟨⟨pd, q.1, q.2⟩, ⟨gN, wN⟩, hlt, by simp [go_sem, eDisk, eLeader, ePx, eBl, f2], by rw [hrun]⟩
        · rw [f3] at s2
          simp [go_sem, eDisk, eLeader, ePx, eBl, eIo, s2, s3, s4, s5, hh.1, h4, hl2, hy, sl, f4, f3, wrap_id (n := 1 + h) (by omega)]
          exact ⟨⟨pd, q.1, q.2⟩, ⟨gN, wN⟩, hlt, by simp [go_sem, eDisk, eLeader, ePx, eBl, f4], by rw [hrun]⟩
    · rw [runE_over hov']
      have : ¬ s.p.phase < 5 := by simp [over] at hov'; omega
      simp [go_sem, eDisk, eLeader, ePx, this]
  · unfold endE
    rw [hL]
    have gdE := diskOK_good hfin.ok
    have rmE := hfin.room
    generalize runE 40 (es0 d h owner gen) = s at *
    have t1 := sLeaderOK_E ⟨L.ver + 1, s.p.value.tmod 1024, s.p.value.tdiv 1024⟩
    have vdiv : -9223372036854775808 ≤ s.p.value.tdiv 1024 ∧ s.p.value.tdiv 1024 < 9223372036854775808 := by
      unfold sm at hvv
      rw [Int.tdiv_eq_ediv_of_nonneg hvv.1]
      omega
    have w4 := wrap_id vdiv
    simp only [eLeader] at t1
    by_cases c6 : s.p.phase = 6
    · rw [if_pos (.inl c6)]
      simp [go_sem, eDisk, eLeader, ePx, c6, w4]
    · cases hl : ldrOK ⟨L.ver + 1, s.p.value.tmod 1024, s.p.value.tdiv 1024⟩
      · rw [if_pos (.inr rfl)]
        rw [hl] at t1
        simp [go_sem, eDisk, eLeader, ePx, c6, w4, t1]
      · rw [if_neg (by simp [c6])]
        rw [hl] at t1
        have hw : s.p.value.tmod 1024 ≤ 3 ∧ -1 ≤ s.p.value.tmod 1024 := by
          simp [ldrOK, inn] at hl
          omega
        have t2 := l06Encode_E ⟨L.ver + 1, s.p.value.tmod 1024, s.p.value.tdiv 1024⟩ (wrap_id (by simp only; omega))
        have t3 := l01Write_E s.d ⟨h, 0, ldrT ⟨L.ver + 1, s.p.value.tmod 1024, s.p.value.tdiv 1024⟩⟩ (by have := gdE.ps; omega)
        have t4 := l01Flush_E ⟨s.d.ss, s.d.ps ++ [⟨h, 0, ldrT ⟨L.ver + 1, s.p.value.tmod 1024, s.p.value.tdiv 1024⟩⟩]⟩ h ⟨gdE.ss, by have := gdE.ps; simp; omega, by
          intro y hy
          simp only [List.mem_append, List.mem_singleton] at hy
          rcases hy with hy | rfl
          · exact gdE.at_ y hy
          · simp only; omega⟩
        have hrm : settleD ⟨s.d.ss, s.d.ps ++ [⟨h, 0, ldrT ⟨L.ver + 1, s.p.value.tmod 1024, s.p.value.tdiv 1024⟩⟩]⟩ h 200 false = putD s.d h 0 (ldrT ⟨L.ver + 1, s.p.value.tmod 1024, s.p.value.tdiv 1024⟩) := by
          unfold putD; exact settle_room _ _ _ _ _ (by simp; omega) (by simp; omega)
        rw [hrm] at t4
        generalize putD s.d h 0 (ldrT ⟨L.ver + 1, s.p.value.tmod 1024, s.p.value.tdiv 1024⟩) = pd at *
        generalize ldrT ⟨L.ver + 1, s.p.value.tmod 1024, s.p.value.tdiv 1024⟩ = tx at *
        simp only [eLeader] at t2
        simp only [eDisk, eIo] at t3 t4
        simp [eIo] at t3 t4
        simp [go_sem, eDisk, eLeader, ePx, eIo, c6, w4, t1, t2, t3, t4]
theorem electA_len : (electA d h owner gen).1.ss.length = 64 ∧ (electA d h owner gen).1.ps.length ≤ 201 := by
  have hin : ESIn h (es0 d h owner gen) := es0_in hd hh hr
  have hfin := runE_in (h := h) 40 _ hin
  have gd := diskOK_good hfin.ok
  have rm := hfin.room
  unfold electA endE
  split
  · exact ⟨gd.ss, by simp only; omega⟩
  · have := putD_good (runE 40 (es0 d h owner gen)).d h 0 (ldrT ⟨(rdLd d h).ver + 1, (runE 40 (es0 d h owner gen)).p.value.tmod 1024, (runE 40 (es0 d h owner gen)).p.value.tdiv 1024⟩) 200 gd (by omega)
    exact ⟨this.ss, this.ps⟩
theorem sElect_E : E CX 9 [eDisk d, .int .i64 h, .int .i64 owner, .int .i64 gen] [] = some { val := .tuple [eDisk (electA d h owner gen).1, eLeader (electA d h owner gen).2.1, .int .i64 (electA d h owner gen).2.2] } := by
  have g := diskOK_good hd
  have g1 := g.ss; have g2 := g.ps
  have i1 : inn h 0 3 = true := by simp [inn]; omega
  have e1 := l06Ask_E d h (by omega) (by omega)
  have hk : lcode d h = 0 := by
    simp [lcode, askC, hd, i1]; omega
  rw [hk] at e1
  have e2 := l04Host_E owner
  have e3 := l01In_E gen 1 1000000
  rw [ho] at e2; rw [hg] at e3
  have e4 := l06Elect_E d h owner gen hd hh hr ho hg hv hb
  obtain ⟨l1, l2⟩ := electA_len d h owner gen hd hh hr ho hg hv hb
  have e5 := l01Own_E (electA d h owner gen).1 (by omega) (by omega)
  generalize electA d h owner gen = z at *
  simp only [eDisk, eLeader] at e1 e4 e5
  refine E_fin Tryz.f9 _ an9 rfl rfl rfl Tryz.func9 rfl (by kernel_rfl) ?_
  simp [go_sem, eDisk, eLeader, e1, e2, e3, e4, e5]
end
end Go.Proofs.YtccoeoppjcegnaaGreat


namespace Go.Proofs.YtccoeoppjcegnaaGreat
open Go
set_option maxRecDepth 100000
set_option maxHeartbeats 1000000
set_option linter.unusedSimpArgs false
set_option linter.unusedVariables false
theorem sameTexts_E (a b : List Tx) (ha : a.length ≤ 1073741824) : E CX 47 [.sl 1 (a.map .str), .sl 1 (b.map .str)] [] = some { val := .bool (decide (a = b)) } := by
  refine E_fin Tryz.f47 _ an47 rfl rfl rfl Tryz.func47 rfl (by kernel_rfl) ?_
  by_cases hl : a.length = b.length
  · simp [go_sem, hl]
    refine loop_list (fun X => fin CX _ _ X = _) a (fun n _ => True) (fun n (_ : Unit) => ⟨SS [(0, .sl 1 (a.map .str)), (1, .sl 1 (b.map .str)), (5, .int .i64 n)], HE⟩) (fun l n _ => if l = b.drop n then (.exit 0, ⟨SS [], HE⟩) else (.ret, ⟨SS [(4, .bool false)], HE⟩)) () trivial ?_ ?_ ?_ ?_ ?_
    · simp [go_sem]
    · intro n _ x t hn hx hd _
      have hn' : n < b.length := by omega
      obtain ⟨y, u, hy, hu, hu'⟩ := cut_at hn'
      have hx := hx hn
      by_cases hxy : x = y
      · simp [go_sem, hn, hn', hx, hy, hxy, hu, hu', wrap_id (n := (n : Int) + 1) (by omega)]
      · simp [go_sem, hn, hn', hx, hy, hxy, hu, hu']
    · intro _ _; simp [go_sem, hl]
    · intro _; simp [hl]
    · by_cases h : a = b <;> simp [go_sem, h]
  · have : a ≠ b := fun h => hl (by rw [h])
    have hl' : ¬ ((a.length : Int) = b.length) := by omega
    simp [go_sem, hl', this]
theorem at_E (bs : List Int) (i n : Int) (hb : ∀ b ∈ bs, 0 ≤ b ∧ b < 256) (hl : bs.length ≤ 1073741824) (hi : 0 ≤ i ∧ i ≤ 1000000) (hn : n ≤ 1000000) : ∃ v : Int, E CX 6 [.sl 1 (bs.map (.int .u8)), .int .i64 i, .int .i64 n] [] = some { val := .int .i64 v } ∧ 0 ≤ v ∧ (v < n ∨ v = 0) := by
  by_cases h1 : n ≤ 1
  · refine ⟨0, ?_, by omega, .inr rfl⟩
    refine E_fin Tryz.f6 _ an6 rfl rfl rfl Tryz.func6 rfl (by kernel_rfl) ?_
    simp [go_sem, h1]
  · have hn0 : ¬ n = 0 := by omega
    by_cases h2 : bs = []
    · subst h2
      refine ⟨(i * 7).tmod n, ?_, ?_, .inl ?_⟩
      · refine E_fin Tryz.f6 _ an6 rfl rfl rfl Tryz.func6 rfl (by kernel_rfl) ?_
        simp [go_sem, h1, hn0, wrap_id (n := i * 7) (by omega)]
      · rw [Int.tmod_eq_emod_of_nonneg (by omega)]; exact Int.emod_nonneg _ (by omega)
      · rw [Int.tmod_eq_emod_of_nonneg (by omega)]; exact Int.emod_lt_of_pos _ (by omega)
    · have hlen : 0 < bs.length := List.length_pos_iff.2 h2
      have hz : ¬ (bs.length : Int) = 0 := by omega
      have m1 : 0 ≤ i.tmod bs.length ∧ i.tmod bs.length < bs.length := by
        rw [Int.tmod_eq_emod_of_nonneg (by omega)]; exact ⟨Int.emod_nonneg _ (by omega), Int.emod_lt_of_pos _ (by omega)⟩
      have m2 : 0 ≤ (i + 1).tmod bs.length ∧ (i + 1).tmod bs.length < bs.length := by
        rw [Int.tmod_eq_emod_of_nonneg (by omega)]; exact ⟨Int.emod_nonneg _ (by omega), Int.emod_lt_of_pos _ (by omega)⟩
      have m3 : 0 ≤ i.tdiv bs.length ∧ i.tdiv bs.length ≤ 1000000 := by
        rw [Int.tdiv_eq_ediv_of_nonneg (by omega)]
        exact ⟨Int.ediv_nonneg (by omega) (by omega), Int.le_trans (Int.ediv_le_self _ (by omega)) (by omega)⟩
      obtain ⟨x, hx⟩ : ∃ x, bs[(i.tmod bs.length).toNat]? = some x := ⟨_, List.getElem?_eq_getElem (by omega)⟩
      obtain ⟨y, hy⟩ : ∃ y, bs[((i + 1).tmod bs.length).toNat]? = some y := ⟨_, List.getElem?_eq_getElem (by omega)⟩
      have bx := hb x (List.mem_of_getElem? hx)
      have bY := hb y (List.mem_of_getElem? hy)
      refine ⟨(x * 31 + y + i.tdiv bs.length).tmod n, ?_, ?_, .inl ?_⟩
      · refine E_fin Tryz.f6 _ an6 rfl rfl rfl Tryz.func6 rfl (by kernel_rfl) ?_
        have w0 := wrap_id (n := i.tdiv (bs.length : Int)) (by omega)
        have t1 : (i.tmod bs.length).toNat < bs.length := by omega
        have t2 : ((i + 1).tmod bs.length).toNat < bs.length := by omega
        have hx' : bs[(i.tmod bs.length).toNat] = x := by rw [List.getElem?_eq_getElem t1] at hx; injection hx
        have hy' : bs[((i + 1).tmod bs.length).toNat] = y := by rw [List.getElem?_eq_getElem t2] at hy; injection hy
        simp [go_sem, h1, hn0, h2, hz, hx', hy', m1.1, m2.1, t1, t2, w0, wrap_id (n := i + 1) (by omega), wrap_id (n := x) (by omega), wrap_id (n := y) (by omega), wrap_id (n := x * 31) (by omega), wrap_id (n := x * 31 + y) (by omega), wrap_id (n := x * 31 + y + i.tdiv bs.length) (by omega)]
      · rw [Int.tmod_eq_emod_of_nonneg (by omega)]; exact Int.emod_nonneg _ (by omega)
      · rw [Int.tmod_eq_emod_of_nonneg (by omega)]; exact Int.emod_lt_of_pos _ (by omega)
end Go.Proofs.YtccoeoppjcegnaaGreat


namespace Go.Proofs.YtccoeoppjcegnaaGreat
open Go
set_option maxRecDepth 100000
set_option maxHeartbeats 4000000
set_option linter.unusedSimpArgs false
set_option linter.unusedVariables false
theorem holds_E (d : Disk) (h gen : Int) (hd : diskOK d = true) (hh : inn h 0 3 = true) : E CX 11 [eDisk d, .int .i64 h, .int .i64 gen] [] = some { val := .tuple [.bool (decide ((rdLd d h).owner = h) && decide ((rdLd d h).gen = gen) && decide (0 < gen)), .int .i64 0] } := by
  have g := diskOK_good hd
  have g1 := g.ss; have g2 := g.ps
  have e1 := codes_E d h (by omega) (by omega)
  have hk : askC d h = 0 := by simp [askC, hd, hh]
  rw [hk] at e1
  have e2 := leader_E d h hd
  generalize rdLd d h = L at *
  simp only [eDisk, eLeader] at e1 e2
  refine E_fin Tryz.f11 _ an11 rfl rfl rfl Tryz.func11 rfl (by kernel_rfl) ?_
  by_cases c1 : L.owner = h
  · have b1 : (L.owner == h) = true := by simp [c1]
    by_cases c2 : L.gen = gen
    · have b2 : (L.gen == gen) = true := by simp [c2]
      simp [go_sem, eDisk, e1, e2, b1, b2, c1, c2]
    · have b2 : (L.gen == gen) = false := by simp [c2]
      simp [go_sem, eDisk, e1, e2, b1, b2, c2]
  · have b1 : (L.owner == h) = false := by simp [c1]
    simp [go_sem, eDisk, e1, e2, b1, c1]
theorem sameDisk_self (d : Disk) (h1 : d.ss.length ≤ 1000000) (h2 : d.ps = []) : E CX 10 [eDisk d, eDisk d] [] = some { val := .bool true } := by
  obtain ⟨ss, ps⟩ := d
  simp only at h1 h2
  subst h2
  have e1 := sameTexts_E ss ss (by omega)
  simp at e1
  refine E_fin Tryz.f10 _ an10 rfl rfl rfl Tryz.func10 rfl (by kernel_rfl) ?_
  simp [go_sem, eDisk, e1]
  refine loop_for (fun X => fin CX _ _ X = _) ([] : List Unit) (fun n _ => True) (fun n (_ : Unit) => ⟨SS [(2, .ptr [2] 0 0), (3, .ptr [3] 0 0), (5, .int .i64 n)], HS [([2], ⟨true, 26, 2, [.agg [.sl 1 (ss.map .str), .sl 3 []]]⟩), ([3], ⟨true, 26, 2, [.agg [.sl 1 (ss.map .str), .sl 3 []]]⟩)]⟩) (fun _ n _ => (.exit 0, ⟨SS [], HS []⟩)) () trivial ?_ ?_ ?_ ?_ ?_
  · simp [go_sem]
  · intro R n _ x t hn; simp at hn
  · intro _ _; simp [go_sem]
  · intro _; simp
  · simp [go_sem]
theorem ldrF_nil : ldrF [] = none := by decide
theorem blF_nil : blF [] = none := by decide
theorem told_sure {r : Res} {ss : List Tx} {x : AV} {c : Int} (h : toldOwn r ⟨ss, []⟩ x c) (hs : ss.length = 64) : ∃ tl : List Io, r = { val := .tuple [.agg [.ref [0, 0, 0, 0] 0 64, .ref [1, 0, 0, 0] 0 0], x, .int .i64 c], own := [⟨false, 9, 1, ss.map .str⟩, ⟨false, 78, 3, tl.map eIo⟩] } := by
  rcases h with ⟨h, _⟩ | ⟨tl, h⟩
  · have := congrArg (fun d : Disk => d.ss.length) h
    simp only [mty, List.length_nil] at this
    omega
  · refine ⟨tl, ?_⟩
    rw [h]
    simp [hs]
theorem blks_of {ss : List Tx} {h v : Int} (hb : ∀ i : Int, 0 ≤ i ∧ i ≤ 3 → ((blF (ss.getD (1 + i).toNat [])).getD zBl).ver < v) : ∀ b ∈ blks ⟨ss, []⟩ h, b.ver < v := by
  intro b hm
  simp only [blks, List.mem_cons, List.not_mem_nil, or_false] at hm
  rcases hm with rfl | rfl | rfl | rfl
  · exact hb 0 (by omega)
  · exact hb 1 (by omega)
  · exact hb 2 (by omega)
  · exact hb 3 (by omega)
end Go.Proofs.YtccoeoppjcegnaaGreat


namespace Go.Proofs.YtccoeoppjcegnaaGreat
open Go
set_option maxRecDepth 100000
set_option maxHeartbeats 4000000
set_option linter.unusedSimpArgs false
set_option linter.unusedVariables false
theorem readLeader_E (d : Disk) (h : Int) (hd : diskOK d = true) (h1 : inn h 0 3 = true) : E CX 7 [eDisk d, .int .i64 h] [] = some { val := .tuple [eLeader (rdLd d h), .int .i64 0] } := by
  have g := diskOK_good hd
  have g1 := g.ss; have g2 := g.ps
  have e1 := codes_E d h (by omega) (by omega)
  have hk : askC d h = 0 := by simp [askC, hd, h1]
  rw [hk] at e1
  have e2 := leader_E d h hd
  generalize rdLd d h = L at *
  simp only [eDisk, eLeader] at e1 e2
  refine E_fin Tryz.f7 _ an7 rfl rfl rfl Tryz.func7 rfl (by kernel_rfl) ?_
  simp [go_sem, eDisk, eLeader, e1, e2]
theorem encodeLeader_E (x : Leader) (hx : ldrOK x = true) (hw : IntKind.i64.wrap (x.owner + 1) = x.owner + 1) : E CX 12 [eLeader x] [] = some { val := .tuple [.str (ldrT x), .int .i64 0] } := by
  have e1 := leaderOK_E x
  have e2 := ldrText_E x hw
  rw [hx] at e1
  simp only [eLeader] at e1 e2
  refine E_fin Tryz.f12 _ an12 rfl rfl rfl Tryz.func12 rfl (by kernel_rfl) ?_
  simp [go_sem, eLeader, e1, e2]
theorem isLongTextL_E (t : Tx) : E CX 49 [.str t] [] = some { val := .bool (decide (65536 < t.length)) } := by
  refine E_fin Tryz.f49 _ an49 rfl rfl rfl Tryz.func49 rfl (by kernel_rfl) ?_
  simp [go_sem]
  omega
theorem decodeLeader_E (t : Tx) (x : Leader) (hx : ldrF t = some x) (ht : t.length ≤ 1000) : E CX 13 [.str t] [] = some { val := .tuple [eLeader x, .int .i64 0] } := by
  have e1 := leaderOf_E t (by omega)
  have e2 := isLongTextL_E t
  rw [hx] at e1
  rw [show decide (65536 < t.length) = false by simp; omega] at e2
  have e5 := first_E [(false, 2), (false, 3)] (by simp)
  simp [anys, firstP] at e5
  simp only [ldrV, eLeader] at e1
  refine E_fin Tryz.f13 _ an13 rfl rfl rfl Tryz.func13 rfl (by kernel_rfl) ?_
  simp [go_sem, eLeader, e1, e2, e5]
theorem runE_sure {h : Int} : ∀ (n : Nat) (s : ES), ESIn h s → s.d.ps = [] → (runE n s).d.ps = [] := by
  intro n
  induction n with
  | zero => intro s _ hs; exact hs
  | succ n ih =>
    intro s g hs
    unfold runE
    cases ho : over s.p with
    | true => simpa using hs
    | false =>
      have : (stE s).d.ps = [] := by
        simp only [stE]
        split
        · exact hs
        · have e : s.d = ⟨s.d.ss, []⟩ := by rw [← hs]
          rw [e, putD_sure]
      simpa using ih _ (stE_in g ho).1 this
theorem runE_ver : ∀ (n : Nat) (s : ES), 0 ≤ s.p.value → VIn s.p s.bs → 0 ≤ (runE n s).p.value := fun n s _ v => (runE_v n s v).val.1
theorem electFn_E (b0 b1 : List Int) (h0 : ∀ b ∈ b0, 0 ≤ b ∧ b < 256) (h1 : ∀ b ∈ b1, 0 ≤ b ∧ b < 256) (top0 : b0.length ≤ top) (top1 : b1.length ≤ top) :
    E CX 3 [.sl 1 (b0.map (.int .u8)), .sl 1 (b1.map (.int .u8))] [] = some { val := .bool true } := by
  by_cases l0 : 1048576 < b0.length
  · refine E_fin Tryz.f3 _ an3 rfl rfl rfl Tryz.func3 rfl (by kernel_rfl) ?_
    simp [go_sem, show (1048576 : Int) < b0.length by omega]
  by_cases l1 : 1048576 < b1.length
  · refine E_fin Tryz.f3 _ an3 rfl rfl rfl Tryz.func3 rfl (by kernel_rfl) ?_
    simp [go_sem, show ¬ (1048576 : Int) < b0.length by omega, show (1048576 : Int) < b1.length by omega]
  obtain ⟨ss, hd, hm, e0⟩ := leaseDisk_E b0 (by omega) h0
  obtain ⟨h, e1, ha, hb⟩ := at_E b1 0 4 h1 (by omega) (by omega) (by omega)
  have hh : 0 ≤ h ∧ h ≤ 3 := by omega
  obtain ⟨o, hod⟩ : ∃ o, (h + 1).tmod 4 = o := ⟨_, rfl⟩
  have ho : 0 ≤ o ∧ o ≤ 3 := by
    rw [← hod, Int.tmod_eq_emod_of_nonneg (by omega)]; omega
  have i1 : inn h 0 3 = true := by simp [inn]; omega
  have i2 : inn o 0 3 = true := by simp [inn]; omega
  have s1 : ss.length = 64 := (diskOK_good hd).ss
  have e3 := readLeader_E ⟨ss, []⟩ h hd i1
  have mget : ∀ n, n < 64 → Mild (ss.getD n []) := fun n hn => by
    rw [getD_at (by omega)]; exact hm _ (List.getElem_mem _)
  -- no version and no ballot is great
  have Lv : (rdLd ⟨ss, []⟩ h).ver ≤ 3 := by
    rw [rdLd_sure]
    cases hx : ldrF (ss.getD 0 []) with
    | none => simp [noL]
    | some x => exact (mget 0 (by omega)).l x hx
  have mb : ∀ b ∈ blks ⟨ss, []⟩ h, 0 ≤ b.mbal ∧ b.mbal ≤ 11 := by
    have key : ∀ i : Int, 0 ≤ i ∧ i ≤ 3 → (rdB ⟨ss, []⟩ h i).mbal ≤ 11 := by
      intro i hi
      rw [rdB_sure]
      cases hx : blF (ss.getD (1 + i).toNat []) with
      | none => simp [zBl]
      | some x => exact (mget _ (by omega)).b x hx
    intro b hb
    simp only [blks, List.mem_cons, List.not_mem_nil, or_false] at hb
    rcases hb with rfl | rfl | rfl | rfl
    · exact ⟨(rdB_ok _ h 0).1, key 0 (by omega)⟩
    · exact ⟨(rdB_ok _ h 1).1, key 1 (by omega)⟩
    · exact ⟨(rdB_ok _ h 2).1, key 2 (by omega)⟩
    · exact ⟨(rdB_ok _ h 3).1, key 3 (by omega)⟩
  have hN : nextB h ((rdLd ⟨ss, []⟩ h).ver + 1) (blks ⟨ss, []⟩ h) ≤ 1000000 := by
    have key : ∀ (v : Int) (l : List Bl) (n : Int), 0 ≤ n ∧ n ≤ 11 → (∀ b ∈ l, 0 ≤ b.mbal ∧ b.mbal ≤ 11) → 0 ≤ maxM v l n ∧ maxM v l n ≤ 11 := by
      intro v l
      induction l with
      | nil => intro n h _; exact h
      | cons b l ih =>
        intro n h hb
        refine ih _ ?_ fun x hx => hb x (by simp [hx])
        have hm : 0 ≤ (ofV b v).mbal ∧ (ofV b v).mbal ≤ 11 := by
          have := hb b (by simp)
          unfold ofV; split
          · simp
          · exact this
        split <;> omega
    have := key ((rdLd ⟨ss, []⟩ h).ver + 1) (blks ⟨ss, []⟩ h) 0 (by omega) mb
    unfold nextB
    rw [Int.tdiv_eq_ediv_of_nonneg this.1]
    omega
  obtain ⟨v1, v2, v3⟩ := rdLd_ver ⟨ss, []⟩ h
  have e4 := elect_E ⟨ss, []⟩ h h 7 hd hh (by simp) i1 (by decide) (by omega) hN
  have e5 := sElect_E ⟨ss, []⟩ h h 7 hd hh (by simp) i1 (by decide) (by omega) hN
  -- what was elected
  have hin : ESIn h (es0 ⟨ss, []⟩ h h 7) := es0_in hd hh (by simp)
  have hfin := runE_in (h := h) 40 _ hin
  have hps := runE_sure (h := h) 40 _ hin rfl
  have hval := (runE_v 40 _ (es0_v (d := ⟨ss, []⟩) (h := h) (owner := h) (gen := 7) hh (by omega))).val
  have hcase : (electA ⟨ss, []⟩ h h 7).2.2 = 19 ∧ (electA ⟨ss, []⟩ h h 7).1.ps = [] ∧ (electA ⟨ss, []⟩ h h 7).1.ss.length = 64 ∨
      ∃ S l, electA ⟨ss, []⟩ h h 7 = (⟨S, []⟩, l, 0) ∧ diskOK ⟨S, []⟩ = true ∧ S.getD 0 [] = ldrT l ∧ ldrOK l = true ∧ l.ver = (rdLd ⟨ss, []⟩ h).ver + 1 ∧ 0 ≤ l.owner := by
    unfold electA endE
    generalize runE 40 (es0 ⟨ss, []⟩ h h 7) = s at *
    have gd := diskOK_good hfin.ok
    have hok := hfin.ok
    obtain ⟨⟨S, P⟩, sp, sb⟩ := s
    simp only at hps hval gd hok
    subst hps
    split
    · exact .inl ⟨rfl, rfl, gd.ss⟩
    · rename_i hc
      right
      rw [putD_sure]
      refine ⟨_, _, rfl, set_ok hok (by rw [ldrT_len]; omega), ?_, ?_, rfl, ?_⟩
      · have := gd.ss
        simp only at this
        rw [List.getD_eq_getElem?_getD]
        show (S.set 0 _)[0]?.getD [] = _
        rw [List.getElem?_set_self (by omega)]; rfl
      · simp only [not_or, Bool.not_eq_false] at hc
        exact hc.2
      · simp only
        unfold sm at hval
        rw [Int.tmod_eq_emod_of_nonneg hval.1]
        omega
  have n0 : ¬ (1048576 : Int) < b0.length := by omega
  have n1 : ¬ (1048576 : Int) < b1.length := by omega
  clear hfin hps hval hin hN mb mget
  rcases hcase with ⟨c1, c2, c3⟩ | ⟨S, l, c1, c2, c3, c4, c5, c6⟩
  · have e6 := sameDisk_self (electA ⟨ss, []⟩ h h 7).1 (by omega) c2
    generalize electA ⟨ss, []⟩ h h 7 = z at *
    obtain ⟨⟨zs, zp⟩, zl, zc⟩ := z
    simp only at c1 c2 c3 e4 e5 e6
    subst c1; subst c2
    generalize rdLd ⟨ss, []⟩ h = L at *
    simp only [eDisk, eLeader, List.map_nil] at e3 e4 e5 e6
    rcases e0 with e0 | e0
    · refine E_fin Tryz.f3 _ an3 rfl rfl rfl Tryz.func3 rfl (by kernel_rfl) ?_
      simp [go_sem, eLeader, l0, l1, n0, n1, e0, e1, e3, e4, e5, e6]
    · refine E_fin Tryz.f3 _ an3 rfl rfl rfl Tryz.func3 rfl (by kernel_rfl) ?_
      simp [go_sem, eLeader, l0, l1, n0, n1, e0, e1, e3, e4, e5, e6]
  · rw [c1] at e4 e5
    have z1 := (diskOK_good c2).ss
    simp only at z1
    have e6 := sameDisk_self ⟨S, []⟩ (by simp only; omega) rfl
    have hrl : ∀ k, rdLd ⟨S, []⟩ k = l := fun k => by rw [rdLd_sure, c3, ldrF_ldrT c4]; rfl
    have c4' := c4
    simp [ldrOK, inn] at c4'
    have hlo : 0 ≤ l.owner ∧ l.owner ≤ 3 ∧ 1 ≤ l.gen := by omega
    have i3 : inn l.owner 0 3 = true := by simp [inn]; omega
    obtain ⟨p, hp⟩ : ∃ p, (l.owner + 1).tmod 4 = p := ⟨_, rfl⟩
    have hp2 : 0 ≤ p ∧ p ≤ 3 ∧ p ≠ l.owner := by
      rw [← hp, Int.tmod_eq_emod_of_nonneg (by omega)]; omega
    have i4 : inn p 0 3 = true := by simp [inn]; omega
    have e7 := readLeader_E ⟨S, []⟩ o c2 i2
    have e8 := holds_E ⟨S, []⟩ l.owner l.gen c2 i3
    have e9 := holds_E ⟨S, []⟩ p l.gen c2 i4
    rw [hrl] at e7 e8 e9
    have e10 := encodeLeader_E l c4 (wrap_id (by omega))
    have e11 := decodeLeader_E (ldrT l) l (ldrF_ldrT c4) (by rw [ldrT_len]; omega)
    have e12 := leaderOK_E l
    rw [c4] at e12
    have hpn : ¬ l.owner = p := fun h => hp2.2.2 h.symm
    have hgp : 0 < l.gen := by omega
    simp [hgp] at e8
    simp [hpn] at e9
    generalize rdLd ⟨ss, []⟩ h = L at *
    generalize ldrT l = tx at *
    simp only [eDisk, eLeader, List.map_nil] at e3 e4 e5 e6 e7 e8 e9 e10 e11 e12
    have w5 := wrap_id (n := L.ver + 1) (by omega)
    simp only [c5] at e4 e5 e7 e10 e11 e12
    have w6 := wrap_id (n := l.owner + 1) (by omega)
    have w7 := wrap_id (n := h + 1) (by omega)
    rcases e0 with e0 | e0
    · refine E_fin Tryz.f3 _ an3 rfl rfl rfl Tryz.func3 rfl (by kernel_rfl) ?_
      simp [go_sem, eLeader, l0, l1, n0, n1, e0, e1, e3, e4, e5, e6, e7, e8, e9, e10, e11, e12, hod, hp, c5, w5, w6, w7]
    · refine E_fin Tryz.f3 _ an3 rfl rfl rfl Tryz.func3 rfl (by kernel_rfl) ?_
      simp [go_sem, eLeader, l0, l1, n0, n1, e0, e1, e3, e4, e5, e6, e7, e8, e9, e10, e11, e12, hod, hp, c5, w5, w6, w7]
end Go.Proofs.YtccoeoppjcegnaaGreat


namespace Go.Proofs.YtccoeoppjcegnaaGreat
open Go
set_option maxRecDepth 100000
theorem told_u8 : ∀ bs, Typed Tryz.prog 5 bs → ∃ x : Int, mkVal (tagg Tryz.prog 5) bs = .int .u8 x ∧ (0 ≤ x ∧ x < 256) := by
  intro bs h
  obtain ⟨x, rfl, w⟩ := typed_int Tryz.underlying5 h
  refine ⟨x, by rw [show tagg Tryz.prog 5 = false by kernel_rfl]; rfl, ?_⟩
  rw [show IntKind.u8.min = 0 from rfl, show IntKind.u8.max = 255 from rfl] at w
  omega
theorem told_Bytes : ∀ bs, Typed Tryz.prog 22 bs → ∃ x : List Int, mkVal (tagg Tryz.prog 22) bs = .sl 1 (x.map (.int .u8)) ∧ x.length ≤ top ∧ ∀ b ∈ x, 0 ≤ b ∧ b < 256 := by
  intro bs h
  obtain ⟨x, e, w, q⟩ := typed_list Tryz.underlying22 told_u8 h
  rw [show Tryz.prog.cellsOf 5 = 1 by kernel_rfl] at e
  cases e
  exact ⟨x, by rw [show tagg Tryz.prog 22 = false by kernel_rfl]; rfl, w, q⟩
end Go.Proofs.YtccoeoppjcegnaaGreat

