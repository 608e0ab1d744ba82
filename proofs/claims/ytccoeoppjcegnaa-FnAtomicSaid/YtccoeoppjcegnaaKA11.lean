/- A reading of the loaded code over plain data, its soundness, and what functions answer by it (part 11; joined by program). No condition. -/
import Derived.Test.YtccoeoppjcegnaaKA10
set_option linter.all false
namespace Go.Proofs.Ytccoeoppjcegnaa
open Go
set_option maxRecDepth 100000
set_option linter.unusedSimpArgs false
set_option linter.unusedVariables false
structure Leader where
  ver : Int
  owner : Int
  gen : Int
  deriving Inhabited, DecidableEq
def eLeader (x : Leader) : AV := .agg [.int .i64 (x.ver), .int .i64 (x.owner), .int .i64 (x.gen)]
theorem sharesL_eLeader (l : List Leader) : AV.sharesL (l.map eLeader) = false := sharesL_map (fun _ => by simp [eLeader, go_sem]) l
theorem sharesL_repeLeader (n : Nat) (x : Leader) : AV.sharesL (List.replicate n (eLeader x)) = false := sharesL_rep _ (by simp [eLeader, go_sem]) n
attribute [go_sem] sharesL_eLeader sharesL_repeLeader
theorem eqLeader_E (a b : Leader) : E CX 58 [eLeader a, eLeader b] [] = some { val := .bool (decide (a = b)) } := by
  refine E_fin Try.f58 _ an58 rfl rfl rfl Try.func58 rfl (by kernel_rfl) ?_
  obtain ⟨a0, a1, a2⟩ := a
  obtain ⟨b0, b1, b2⟩ := b
  by_cases c0 : a0 = b0
  · by_cases c1 : a1 = b1
    · by_cases c2 : a2 = b2
      · simp [go_sem, eLeader, c0, c1, c2]
      · simp [go_sem, eLeader, c0, c1, c2]
    · simp [go_sem, eLeader, c0, c1]
  · simp [go_sem, eLeader, c0]
theorem toLeader_E (a : Leader) : E CX 57 [eLeader a] [] = some { val := eLeader a } := by
  refine E_fin Try.f57 _ an57 rfl rfl rfl Try.func57 rfl (by kernel_rfl) ?_
  simp [go_sem, eLeader]
end Go.Proofs.Ytccoeoppjcegnaa

namespace Go.Proofs.Ytccoeoppjcegnaa
open Go
set_option maxRecDepth 100000
set_option maxHeartbeats 1000000
set_option linter.unusedSimpArgs false
set_option linter.unusedVariables false
def ldrOK (x : Leader) : Bool := inn x.ver 0 1000000 && ((decide (x.owner = -1) && decide (x.gen = 0)) || (inn x.owner 0 3 && inn x.gen 1 1000000 && decide (0 < x.ver)))
theorem isVer_E (n : Int) : E CX 122 [.int .i64 n] [] = some { val := .bool (inn n 0 1000000) } := by
  refine E_fin Try.f122 _ an122 rfl rfl rfl Try.func122 rfl (by kernel_rfl) ?_
  simp [go_sem, within_E]
def noL (v : Int) : Leader := ⟨v, -1, 0⟩
theorem nobody_E (v : Int) : E CX 129 [.int .i64 v] [] = some { val := eLeader (noL v) } := by
  refine E_fin Try.f129 _ an129 rfl rfl rfl Try.func129 rfl (by kernel_rfl) ?_
  simp [go_sem, eLeader, noL]
theorem leaderOK_E (x : Leader) : E CX 127 [eLeader x] [] = some { val := .bool (ldrOK x) } := by
  refine E_fin Try.f127 _ an127 rfl rfl rfl Try.func127 rfl (by kernel_rfl) ?_
  have e1 := isVer_E x.ver
  have e2 := nobody_E x.ver
  have e3 := isHost_E x.owner
  have e4 := isGen_E x.gen
  simp only [eLeader, noL] at e2
  unfold ldrOK
  cases c1 : inn x.ver 0 1000000
  · rw [c1] at e1; simp [go_sem, eLeader, e1]
  · rw [c1] at e1
    cases c3 : inn x.owner 0 3
    · rw [c3] at e3
      by_cases h1 : x.owner = -1
      · by_cases h2 : x.gen = 0
        · rw [h1] at e3; simp [go_sem, eLeader, e1, e2, e3, h1, h2]
        · rw [h1] at e3; simp [go_sem, eLeader, e1, e2, e3, h1, h2, show (x.gen == 0) = false by simp [h2]]
      · simp [go_sem, eLeader, e1, e2, e3, h1, show (x.owner == -1) = false by simp [h1]]
    · rw [c3] at e3
      have h1 : ¬ x.owner = -1 := by intro h; rw [h] at c3; simp [inn] at c3
      cases c4 : inn x.gen 1 1000000
      · rw [c4] at e4; simp [go_sem, eLeader, e1, e2, e3, e4, h1, show (x.owner == -1) = false by simp [h1]]
      · rw [c4] at e4; simp [go_sem, eLeader, e1, e2, e3, e4, h1, show (x.owner == -1) = false by simp [h1]]
theorem sLeaderOK_E (x : Leader) : E CX 131 [eLeader x] [] = some { val := .bool (ldrOK x) } := by
  refine E_fin Try.f131 _ an131 rfl rfl rfl Try.func131 rfl (by kernel_rfl) ?_
  have e1 := l01In_E x.ver 0 1000000
  have e3 := l04Host_E x.owner
  have e4 := l01In_E x.gen 1 1000000
  unfold ldrOK
  cases c1 : inn x.ver 0 1000000
  · rw [c1] at e1; simp [go_sem, eLeader, e1]
  · rw [c1] at e1
    by_cases h1 : x.owner = -1
    · rw [h1] at e3 ⊢
      have : inn (-1) 0 3 = false := by decide
      rw [this] at e3 ⊢
      by_cases h2 : x.gen = 0
      · simp [go_sem, eLeader, e1, e3, h1, h2]
      · by_cases h3 : 0 < x.ver
        · simp [go_sem, eLeader, e1, e3, h1, h2, h3]
        · simp [go_sem, eLeader, e1, e3, h1, h2, h3]
    · by_cases h3 : 0 < x.ver
      · cases c3 : inn x.owner 0 3
        · rw [c3] at e3; simp [go_sem, eLeader, e1, e3, h1, h3]
        · rw [c3] at e3
          cases c4 : inn x.gen 1 1000000
          · rw [c4] at e4; simp [go_sem, eLeader, e1, e3, e4, h1, h3]
          · rw [c4] at e4; simp [go_sem, eLeader, e1, e3, e4, h1, h3]
      · simp [go_sem, eLeader, e1, h1, h3]
def ldrT (x : Leader) : Tx := sealF 6 [x.ver, x.owner + 1, x.gen]
theorem ldrText_E (x : Leader) (hw : IntKind.i64.wrap (x.owner + 1) = x.owner + 1) : E CX 128 [eLeader x] [] = some { val := .str (ldrT x) } := by
  refine E_fin Try.f128 _ an128 rfl rfl rfl Try.func128 rfl (by kernel_rfl) ?_
  have e1 := seal_E 6 [x.ver, x.owner + 1, x.gen] (by simp)
  simp at e1
  simp [go_sem, eLeader, e1, ldrT, hw]
theorem l06Encode_E (x : Leader) (hw : IntKind.i64.wrap (x.owner + 1) = x.owner + 1) : E CX 135 [eLeader x] [] = some { val := .str (ldrT x) } := by
  refine E_fin Try.f135 _ an135 rfl rfl rfl Try.func135 rfl (by kernel_rfl) ?_
  have e1 := l02Seal_E 6 [x.ver, x.owner + 1, x.gen] (by simp)
  simp at e1
  simp [go_sem, eLeader, e1, ldrT, hw]
def ldrF (t : Tx) : Option Leader := match openF t 6 with
  | some [a, b, c] => if ldrOK ⟨a, IntKind.i64.wrap (b - 1), c⟩ then some ⟨a, IntKind.i64.wrap (b - 1), c⟩ else none
  | _ => none
/-- What a reader of a leader answers, with its own answer where there is none. -/
def ldrV (z : Leader) (o : Option Leader) : AV := match o with
  | some x => .tuple [eLeader x, .bool true]
  | none => .tuple [eLeader z, .bool false]
theorem leaderOf_E (t : Tx) (ht : t.length ≤ 1000000) : E CX 178 [.str t] [] = some { val := ldrV ⟨0, 0, 0⟩ (ldrF t) } := by
  refine E_fin Try.f178 _ an178 rfl rfl rfl Try.func178 rfl (by kernel_rfl) ?_
  unfold ldrF
  have e1 := open_E t 6 ht
  rcases openV_cases t 6 with ⟨h2, h3 | ⟨l, h3⟩⟩ | ⟨l, h2, h3⟩
  · rw [h3] at e1
    simp [go_sem, ldrV, eLeader, h2, e1]
  · rw [h3] at e1
    simp [go_sem, ldrV, eLeader, h2, e1]
  · rw [h3] at e1
    match l, h2 with
    | [], h2 => simp [go_sem, ldrV, eLeader, h2, e1]
    | [a], h2 => simp [go_sem, ldrV, eLeader, h2, e1]
    | [a, b], h2 => simp [go_sem, ldrV, eLeader, h2, e1]
    | a :: b :: c :: d :: l, h2 => simp [go_sem, ldrV, eLeader, h2, e1, len_ne3 l]
    | [a, b, c], h2 =>
      have e2 := leaderOK_E ⟨a, IntKind.i64.wrap (b - 1), c⟩
      simp only [eLeader] at e2
      cases h4 : ldrOK ⟨a, IntKind.i64.wrap (b - 1), c⟩
      · rw [h4] at e2
        simp [go_sem, ldrV, eLeader, h2, e1, e2, h4]
      · rw [h4] at e2
        simp [go_sem, ldrV, eLeader, h2, e1, e2, h4]
theorem l06Decode_E (t : Tx) (ht : t.length ≤ 1000000) : E CX 183 [.str t] [] = some { val := ldrV (noL 0) (ldrF t) } := by
  refine E_fin Try.f183 _ an183 rfl rfl rfl Try.func183 rfl (by kernel_rfl) ?_
  unfold ldrF
  have e1 := l02Open_E t 6 ht
  cases h2 : openF t 6 with
  | none =>
    rw [h2] at e1
    simp [go_sem, ldrV, eLeader, noL, h2, e1]
  | some l =>
    rw [h2] at e1
    match l, h2 with
    | [], h2 => simp [go_sem, ldrV, eLeader, noL, h2, e1]
    | [a], h2 => simp [go_sem, ldrV, eLeader, noL, h2, e1]
    | [a, b], h2 => simp [go_sem, ldrV, eLeader, noL, h2, e1]
    | a :: b :: c :: d :: l, h2 => simp [go_sem, ldrV, eLeader, noL, h2, e1, len_ne3 l]
    | [a, b, c], h2 =>
      have e2 := sLeaderOK_E ⟨a, IntKind.i64.wrap (b - 1), c⟩
      simp only [eLeader] at e2
      cases h4 : ldrOK ⟨a, IntKind.i64.wrap (b - 1), c⟩
      · rw [h4] at e2
        simp [go_sem, ldrV, eLeader, noL, h2, e1, e2, h4]
      · rw [h4] at e2
        simp [go_sem, ldrV, eLeader, noL, h2, e1, e2, h4]
/-- The leader, as a host reads it. -/
def rdLd (d : Disk) (h : Int) : Leader := (ldrF (rdL d.ss d.ps h 0)).getD (noL 0)
theorem leader_E (d : Disk) (h : Int) (hd : diskOK d = true) : E CX 118 [eDisk d, .int .i64 h] [] = some { val := eLeader (rdLd d h) } := by
  refine E_fin Try.f118 _ an118 rfl rfl rfl Try.func118 rfl (by kernel_rfl) ?_
  have g := diskOK_good hd
  have g1 := g.ss; have g2 := g.ps
  have e1 := read_E d h 0 (by omega) (by omega)
  have hln := rdL_len hd h 0
  have e2 := leaderOf_E (rdL d.ss d.ps h 0) (by omega)
  have e3 := nobody_E 0
  unfold rdLd
  simp only [eDisk] at e1
  simp only [eLeader, noL] at e3
  cases hx : ldrF (rdL d.ss d.ps h 0) with
  | none =>
    rw [hx] at e2
    simp only [ldrV, eLeader] at e2 ⊢
    simp [go_sem, eDisk, noL, e1, e2, e3]
  | some x =>
    rw [hx] at e2
    simp only [ldrV, eLeader] at e2
    simp [go_sem, eDisk, e1, e2, eLeader]
theorem l06Read_E (d : Disk) (h : Int) (hd : diskOK d = true) : E CX 132 [eDisk d, .int .i64 h] [] = some { val := eLeader (rdLd d h) } := by
  refine E_fin Try.f132 _ an132 rfl rfl rfl Try.func132 rfl (by kernel_rfl) ?_
  have g := diskOK_good hd
  have g1 := g.ss; have g2 := g.ps
  have e1 := l01Read_E d h 0 (by omega) (by omega)
  have hln := rdL_len hd h 0
  have e2 := l06Decode_E (rdL d.ss d.ps h 0) (by omega)
  unfold rdLd
  simp only [eDisk] at e1
  cases hx : ldrF (rdL d.ss d.ps h 0) with
  | none =>
    rw [hx] at e2
    simp only [ldrV, eLeader, noL] at e2
    simp [go_sem, eDisk, noL, e1, e2, eLeader]
  | some x =>
    rw [hx] at e2
    simp only [ldrV, eLeader] at e2
    simp [go_sem, eDisk, e1, e2, eLeader]
def lcode (d : Disk) (h : Int) : Int := if askC d h ≠ 0 then askC d h else if d.ps.length = 200 then 7 else 0
theorem l06Ask_E (d : Disk) (h : Int) (h1 : d.ss.length ≤ 1073741824) (h2 : d.ps.length ≤ 1073741824) : E CX 130 [eDisk d, .int .i64 h] [] = some { val := .int .i64 (lcode d h) } := by
  refine E_fin Try.f130 _ an130 rfl rfl rfl Try.func130 rfl (by kernel_rfl) ?_
  have e1 := l01Ask_E d h 0 h1 h2
  have : askS d h 0 = askC d h := by unfold askS askC; cases diskOK d <;> cases inn h 0 3 <;> simp [inn]
  rw [this] at e1
  unfold lcode
  simp only [eDisk] at e1
  generalize askC d h = c at *
  by_cases hc : c = 0
  · subst hc
    by_cases c4 : d.ps.length = 200
    · simp [go_sem, eDisk, e1, c4]
    · have : ¬ ((d.ps.length : Int) = 200) := by omega
      simp [go_sem, eDisk, e1, c4, this]
  · simp [go_sem, eDisk, e1, hc]
theorem lcode_zero {d : Disk} {h : Int} (hc : lcode d h = 0) : diskOK d = true ∧ inn h 0 3 = true ∧ 0 ≤ h ∧ h ≤ 3 ∧ d.ps.length < 200 := by
  unfold lcode askC at hc
  cases c1 : diskOK d
  · simp [c1] at hc
  · cases c2 : inn h 0 3
    · simp [c1, c2] at hc
    · simp [c1, c2] at hc
      have g := (diskOK_good c1).ps
      simp [inn] at c2
      exact ⟨rfl, rfl, c2.1, c2.2, by omega⟩
end Go.Proofs.Ytccoeoppjcegnaa

namespace Go.Proofs.Ytccoeoppjcegnaa
open Go
set_option maxRecDepth 100000
set_option maxHeartbeats 1000000
set_option linter.unusedSimpArgs false
set_option linter.unusedVariables false
def zL : Leader := ⟨0, 0, 0⟩
def relC (d : Disk) (h : Int) (x : Leader) : Int := if lcode d h ≠ 0 then lcode d h else if ldrOK x then 0 else 1
theorem relC_zero {d : Disk} {h : Int} {x : Leader} (hc : relC d h x = 0) : lcode d h = 0 ∧ ldrOK x = true ∧ 0 ≤ x.ver ∧ x.ver ≤ 1000000 := by
  unfold relC at hc
  by_cases h1 : lcode d h = 0
  · cases h2 : ldrOK x
    · simp [h1, h2] at hc
    · have h3 := h2
      simp [ldrOK, inn] at h3
      exact ⟨h1, rfl, h3.1.1, h3.1.2⟩
  · simp [h1] at hc
def relA (d : Disk) (h : Int) (x : Leader) : Disk × Leader × Int :=
  if relC d h x ≠ 0 then (mty, zL, relC d h x) else if rdLd d h ≠ x then (d, rdLd d h, 13) else if x.owner ≠ h then (d, x, 9) else if x.ver = 1000000 then (d, x, 6) else (putD d h 0 (ldrT (noL (x.ver + 1))), noL (x.ver + 1), 0)
theorem leader_eta (x y : Leader) : (x.ver = y.ver ∧ x.owner = y.owner ∧ x.gen = y.gen) ↔ x = y := by
  cases x; cases y; simp
theorem first3_E (a b c : Bool) (x y z : Int) : E CX 61 [.sl 1 [.iface 4 (.bool a), .iface 3 (.int .i64 x), .iface 4 (.bool b), .iface 3 (.int .i64 y), .iface 4 (.bool c), .iface 3 (.int .i64 z)]] [] = some { val := .int .i64 (if a then x else if b then y else if c then z else 0) } := by
  have e := first_E [(a, x), (b, y), (c, z)] (by simp)
  simp only [anys] at e
  rw [e]
  cases a <;> cases b <;> cases c <;> rfl
theorem release_E (d : Disk) (h : Int) (x : Leader) (h1 : d.ss.length ≤ 1073741824) (h2 : d.ps.length ≤ 1073741824) : ∃ r : Res, E CX 48 [eDisk d, .int .i64 h, eLeader x] [] = some r ∧ toldOwn r (relA d h x).1 (eLeader (relA d h x).2.1) (relA d h x).2.2 := by
  have e1 := codes_E d h h1 h2
  have e2 := leaderOK_E x
  have e4 := isFull_E d
  simp only [eDisk] at e1 e4
  unfold relA
  by_cases hc : relC d h x = 0
  · obtain ⟨hl, hx, hv1, hv2⟩ := relC_zero hc
    obtain ⟨hd, hh, ho1, ho2, hps⟩ := lcode_zero hl
    have hk : askC d h = 0 := by unfold askC; simp [hd, hh]
    have hf : decide (d.ps.length = 200) = false := by simp; omega
    rw [hk] at e1; rw [hx] at e2; rw [hf] at e4
    rw [if_neg (by simp [hc])]
    have e6 := leader_E d h hd
    have e7 := copied_E d h1 h2
    have g := diskOK_good hd
    have e8 := ldrText_E (noL (x.ver + 1)) (show IntKind.i64.wrap ((-1 : Int) + 1) = -1 + 1 by decide)
    have e9 := put_E d h 0 (ldrT (noL (x.ver + 1))) ⟨g.ss, by omega, g.at_⟩ (by omega)
    have e11 := nobody_E (x.ver + 1)
    have w1 := wrap_id (n := x.ver + 1) (by omega)
    generalize putD d h 0 (ldrT (noL (x.ver + 1))) = pd at *
    generalize htx : ldrT (noL (x.ver + 1)) = tx at *
    simp only [eDisk, eLeader] at e2 e6 e7 e8 e9 e11
    simp only [noL] at e8 e11
    by_cases hr : rdLd d h = x
    · rw [hr] at e6 ⊢
      rw [if_neg (by simp)]
      by_cases hm : x.owner = h
      · rw [if_neg (by simp [hm])]
        rw [hm] at e2 e6
        by_cases hn : x.ver = 1000000
        · rw [if_pos hn]
          rw [hn] at e2 e6
          refine ⟨_, ?_, .inr ⟨[], rfl⟩⟩
          refine E_fin Try.f48 _ an48 rfl rfl rfl Try.func48 rfl (by kernel_rfl) ?_
          simp [go_sem, eDisk, eLeader, e1, e2, e4, first3_E, e6, e7, hm, hn]
        · rw [if_neg hn]
          refine ⟨_, ?_, .inr ⟨List.replicate (d.ps.length + 1 - pd.ps.length) zIo, rfl⟩⟩
          refine E_fin Try.f48 _ an48 rfl rfl rfl Try.func48 rfl (by kernel_rfl) ?_
          try simp at e9
          simp [go_sem, eDisk, eLeader, noL, e1, e2, e4, first3_E, e6, e8, e9, e11, hm, hn, w1, show (x.ver == 1000000) = false by simp [hn]]
      · rw [if_pos hm]
        refine ⟨_, ?_, .inr ⟨[], rfl⟩⟩
        refine E_fin Try.f48 _ an48 rfl rfl rfl Try.func48 rfl (by kernel_rfl) ?_
        simp [go_sem, eDisk, eLeader, e1, e2, e4, first3_E, e6, e7, hm, show (x.owner == h) = false by simp [hm]]
    · rw [if_pos hr]
      refine ⟨_, ?_, .inr ⟨[], rfl⟩⟩
      refine E_fin Try.f48 _ an48 rfl rfl rfl Try.func48 rfl (by kernel_rfl) ?_
      generalize rdLd d h = y at *
      have hne : ¬ (y.ver = x.ver ∧ y.owner = x.owner ∧ y.gen = x.gen) := by rw [leader_eta]; exact hr
      by_cases c1 : y.ver = x.ver
      · by_cases c2 : y.owner = x.owner
        · have c3 : ¬ y.gen = x.gen := fun h => hne ⟨c1, c2, h⟩
          have b3 : (y.gen == x.gen) = false := by simp [c3]
          simp [go_sem, eDisk, eLeader, e1, e2, e4, first3_E, e6, e7, c1, c2, c3, b3]
        · have b2 : (y.owner == x.owner) = false := by simp [c2]
          simp [go_sem, eDisk, eLeader, e1, e2, e4, first3_E, e6, e7, c1, c2, b2]
      · have b1 : (y.ver == x.ver) = false := by simp [c1]
        simp [go_sem, eDisk, eLeader, e1, e2, e4, first3_E, e6, e7, c1, b1]
  · rw [if_pos hc]
    refine ⟨_, ?_, .inl ⟨rfl, rfl⟩⟩
    refine E_fin Try.f48 _ an48 rfl rfl rfl Try.func48 rfl (by kernel_rfl) ?_
    simp only [eLeader] at e2
    unfold relC lcode at hc ⊢
    by_cases hk : askC d h = 0
    · rw [hk] at e1 hc ⊢
      by_cases hf : d.ps.length = 200
      · have e5 := fun b => first_E [(false, 0), (true, 7), (b, 1)] (by simp)
        have e4' : decide (d.ps.length = 200) = true := by simp [hf]
        rw [e4'] at e4
        simp [go_sem, eDisk, eLeader, zL, e1, e2, e4, first3_E, hf]
      · have e4' : decide (d.ps.length = 200) = false := by simp [hf]
        rw [e4'] at e4
        cases hx : ldrOK x
        · rw [hx] at e2
          simp [go_sem, eDisk, eLeader, zL, e1, e2, e4, first3_E, hf]
        · simp [hf, hx] at hc
    · generalize askC d h = c at *
      simp [go_sem, eDisk, eLeader, zL, e1, e2, e4, first3_E, hk, show (c == 0) = false by simp [hk]]
theorem sRelease_E (d : Disk) (h : Int) (x : Leader) (h1 : d.ss.length ≤ 1073741824) (h2 : d.ps.length ≤ 1073741824) : ∃ r : Res, E CX 50 [eDisk d, .int .i64 h, eLeader x] [] = some r ∧ toldVal r (relA d h x).1 (eLeader (relA d h x).2.1) (relA d h x).2.2 := by
  have e1 := l06Ask_E d h h1 h2
  have e2 := sLeaderOK_E x
  simp only [eDisk] at e1
  simp only [eLeader] at e2
  unfold relA
  by_cases hc : relC d h x = 0
  · obtain ⟨hl, hx, hv1, hv2⟩ := relC_zero hc
    obtain ⟨hd, hh, ho1, ho2, hps⟩ := lcode_zero hl
    rw [hl] at e1; rw [hx] at e2
    rw [if_neg (by simp [hc])]
    have e6 := l06Read_E d h hd
    have e7 := l01Own_E d h1 h2
    have g := diskOK_good hd
    have e8 := l06Encode_E (noL (x.ver + 1)) (show IntKind.i64.wrap ((-1 : Int) + 1) = -1 + 1 by decide)
    have e9 := l01Write_E d ⟨h, 0, ldrT (noL (x.ver + 1))⟩ (by omega)
    have e12 := l01Flush_E ⟨d.ss, d.ps ++ [⟨h, 0, ldrT (noL (x.ver + 1))⟩]⟩ h ⟨g.ss, by simp; omega, by
      intro y hy
      simp only [List.mem_append, List.mem_singleton] at hy
      rcases hy with hy | rfl
      · exact g.at_ y hy
      · simp only; omega⟩
    have hrm : settleD ⟨d.ss, d.ps ++ [⟨h, 0, ldrT (noL (x.ver + 1))⟩]⟩ h 200 false = putD d h 0 (ldrT (noL (x.ver + 1))) := by
      unfold putD; exact settle_room _ _ _ _ _ (by simp; omega) (by simp; omega)
    rw [hrm] at e12
    have gp := putD_good d h 0 (ldrT (noL (x.ver + 1))) 200 g (by omega)
    have gp1 := gp.ss; have gp2 := gp.ps
    have e10 := l01Own_E (putD d h 0 (ldrT (noL (x.ver + 1)))) (by omega) (by omega)
    have w1 := wrap_id (n := x.ver + 1) (by omega)
    generalize putD d h 0 (ldrT (noL (x.ver + 1))) = pd at *
    generalize htx : ldrT (noL (x.ver + 1)) = tx at *
    simp only [eDisk, eLeader] at e6 e7 e8 e10
    simp only [noL] at e8
    simp only [eDisk, eIo] at e9 e12
    simp [eIo] at e9 e12
    by_cases hr : rdLd d h = x
    · rw [hr] at e6 ⊢
      rw [if_neg (by simp)]
      by_cases hm : x.owner = h
      · rw [if_neg (by simp [hm])]
        rw [hm] at e2 e6
        by_cases hn : x.ver = 1000000
        · rw [if_pos hn]
          rw [hn] at e2 e6
          refine ⟨_, ?_, .inr rfl⟩
          refine E_fin Try.f50 _ an50 rfl rfl rfl Try.func50 rfl (by kernel_rfl) ?_
          simp [go_sem, eDisk, eLeader, e1, e2, e6, e7, hm, hn]
        · rw [if_neg hn]
          refine ⟨_, ?_, .inr rfl⟩
          refine E_fin Try.f50 _ an50 rfl rfl rfl Try.func50 rfl (by kernel_rfl) ?_
          simp [go_sem, eDisk, eLeader, eIo, noL, e1, e2, e6, e8, e9, e10, e12, hm, hn, w1]
      · rw [if_pos hm]
        refine ⟨_, ?_, .inr rfl⟩
        refine E_fin Try.f50 _ an50 rfl rfl rfl Try.func50 rfl (by kernel_rfl) ?_
        simp [go_sem, eDisk, eLeader, e1, e2, e6, e7, hm]
    · rw [if_pos hr]
      refine ⟨_, ?_, .inr rfl⟩
      refine E_fin Try.f50 _ an50 rfl rfl rfl Try.func50 rfl (by kernel_rfl) ?_
      generalize rdLd d h = y at *
      have hne : ¬ (y.ver = x.ver ∧ y.owner = x.owner ∧ y.gen = x.gen) := by rw [leader_eta]; exact hr
      by_cases c1 : y.ver = x.ver
      · by_cases c2 : y.owner = x.owner
        · have c3 : ¬ y.gen = x.gen := fun h => hne ⟨c1, c2, h⟩
          simp [go_sem, eDisk, eLeader, e1, e2, e6, e7, c1, c2, c3]
        · simp [go_sem, eDisk, eLeader, e1, e2, e6, e7, c1, c2]
      · simp [go_sem, eDisk, eLeader, e1, e2, e6, e7, c1]
  · rw [if_pos hc]
    refine ⟨_, ?_, .inl ⟨rfl, rfl⟩⟩
    refine E_fin Try.f50 _ an50 rfl rfl rfl Try.func50 rfl (by kernel_rfl) ?_
    unfold relC at hc ⊢
    by_cases hk : lcode d h = 0
    · rw [hk] at e1 hc ⊢
      cases hx : ldrOK x
      · rw [hx] at e2
        simp [go_sem, eDisk, eLeader, zL, e1, e2]
      · simp [hx] at hc
    · generalize lcode d h = c at *
      simp [go_sem, eDisk, eLeader, zL, e1, e2, hk]
theorem relA_len (d : Disk) (h : Int) (x : Leader) (b1 : d.ss.length ≤ 1048576) (b2 : d.ps.length ≤ 1048576) : (relA d h x).1.ss.length ≤ 1048576 ∧ (relA d h x).1.ps.length ≤ 1048577 := by
  unfold relA
  split
  · simp [mty]
  · rename_i hc
    obtain ⟨hl, hx, hv1, hv2⟩ := relC_zero (by simpa using hc)
    obtain ⟨hd, hh, ho1, ho2, hps⟩ := lcode_zero hl
    have gp := putD_good d h 0 (ldrT (noL (x.ver + 1))) 200 (diskOK_good hd) (by omega)
    have := gp.ss; have := gp.ps
    split
    · exact ⟨b1, by simp only; omega⟩
    · split
      · exact ⟨b1, by simp only; omega⟩
      · split
        · exact ⟨b1, by simp only; omega⟩
        · simp only; omega
end Go.Proofs.Ytccoeoppjcegnaa

namespace Go.Proofs.Ytccoeoppjcegnaa
open Go
set_option maxRecDepth 100000
set_option maxHeartbeats 1000000
set_option linter.unusedSimpArgs false
set_option linter.unusedVariables false
theorem loseHost_E (d : Disk) (h k : Int) (hd : diskOK d = true) (hh : inn h 0 3 = true) (hk : inn k 0 200 = true) : E CX 43 [eDisk d, .int .i64 h, .int .i64 k] [] =
    some { val := .tuple [eDisk (settleD d h k true), .int .i64 0] } := by
  have g := diskOK_good hd
  have g1 := g.ss; have g2 := g.ps
  have e1 := diskOK_E d (by omega) (by omega)
  have e2 := isHost_E h
  have e3 := within_E k 0 200
  have hk' : 0 ≤ k ∧ k ≤ 200 := by simpa [inn] using hk
  have e4 := settle_E d h k true (by omega) (by omega) (by rw [g1]; exact g.at_) (by unfold In64; omega)
  have hss : (settleD d h k true).ss.length = d.ss.length := ((g.settle h k true).ss).trans g1.symm
  rw [hd] at e1; rw [hh] at e2; rw [hk] at e3
  generalize settleD d h k true = pd at *
  simp only [eDisk] at e1 e4
  refine E_fin Try.f43 _ an43 rfl rfl rfl Try.func43 rfl (by kernel_rfl) ?_
  simp [go_sem, eDisk, e1, e2, e3, e4, first3_E, ← hss]
end Go.Proofs.Ytccoeoppjcegnaa

namespace Go.Proofs.Ytccoeoppjcegnaa
open Go
set_option maxRecDepth 100000
set_option linter.unusedSimpArgs false
set_option linter.unusedVariables false
theorem rAns_parts {d : Disk} {h of_ : Int} {rp : List Move} (hr : rAns d h of_ = (rp, 0)) : ∃ l q, jAns d h of_ = (l, q, 0) ∧ ((l = [] ∧ rp = []) ∨ (l ≠ [] ∧ rp = applyF of_ q l)) := by
  unfold rAns at hr
  generalize jAns d h of_ = j at *
  obtain ⟨l, q, c⟩ := j
  by_cases hc : c ≠ 0 ∨ l = []
  · rw [if_pos hc] at hr
    injection hr with h1 h2
    simp only at h2
    subst h2
    obtain rfl : l = [] := hc.resolve_left (fun h => h rfl)
    exact ⟨[], q, rfl, .inl ⟨rfl, h1.symm⟩⟩
  · rw [if_neg hc] at hr
    injection hr with h1 h2
    have h0 : c = 0 := by
      by_cases h0 : c = 0
      · exact h0
      · exact absurd (.inl h0) hc
    subst h0
    exact ⟨l, q, rfl, .inr ⟨fun h => hc (.inr h), h1.symm⟩⟩
theorem replayPlan_ok (d : Disk) (h of_ : Int) (rp : List Move) (h1 : d.ss.length ≤ 1073741824) (h2 : d.ps.length ≤ 1073741824) (hr : rAns d h of_ = (rp, 0)) : (rp = [] ∧ E CX 44 [eDisk d, .int .i64 h, .int .i64 of_] [] = some { val := .tuple [.nil, .int .i64 0] }) ∨
    (rp ≠ [] ∧ E CX 44 [eDisk d, .int .i64 h, .int .i64 of_] [] = some { val := .tuple [.ref [0, 0, 0, 0] 0 rp.length, .int .i64 0], own := [⟨false, 99, 3, rp.map eMove⟩] }) := by
  obtain ⟨l, q, hj, hl⟩ := rAns_parts hr
  obtain ⟨rj, e1, hjj⟩ := journalOf_E d h of_ h1 h2
  have hln := jAns_len' d h of_
  have hof := @jAns_of d h of_ (by rw [hj])
  rw [hj] at hjj hln
  simp only at hjj hln
  simp only [eDisk] at e1
  rcases hl with ⟨rfl, rfl⟩ | ⟨hl, rfl⟩
  · left
    refine ⟨rfl, ?_⟩
    refine E_fin Try.f44 _ an44 rfl rfl rfl Try.func44 rfl (by kernel_rfl) ?_
    rcases hjj with ⟨_, rfl⟩ | rfl
    · simp [go_sem, eDisk, e1]
    · try simp at e1
      simp [go_sem, eDisk, e1]
  · right
    refine ⟨by simp [applyF], ?_⟩
    have hne : ¬ ((l.length : Int) = 0) := by
      intro h; exact hl (List.length_eq_zero_iff.1 (by omega))
    refine E_fin Try.f44 _ an44 rfl rfl rfl Try.func44 rfl (by kernel_rfl) ?_
    have e2 := applied_E of_ q l (by omega) (by omega)
    rcases hjj with ⟨h3, _⟩ | rfl
    · exact absurd h3 hl
    · simp [go_sem, eDisk, e1, e2, hne, hl]
theorem sReplayPlan_ok (d : Disk) (h of_ : Int) (rp : List Move) (h1 : d.ss.length ≤ 1073741824) (h2 : d.ps.length ≤ 1073741824) (hr : rAns d h of_ = (rp, 0)) : E CX 45 [eDisk d, .int .i64 h, .int .i64 of_] [] = some { val := .tuple [.sl 3 (rp.map eMove), .int .i64 0] } := by
  obtain ⟨l, q, hj, hl⟩ := rAns_parts hr
  have e1 := l07Ask_E d h of_ h1 h2
  have hln := jAns_len' d h of_
  rw [hj] at hln
  simp only at hln
  have hc : jcode d h of_ = 0 := by
    by_cases hc : jcode d h of_ = 0
    · exact hc
    · unfold jAns at hj
      rw [if_pos hc] at hj
      injection hj with _ hj; injection hj
  obtain ⟨hd, ho⟩ := jcode_zero hc
  rw [hc] at e1
  unfold jAns at hj
  rw [if_neg (by simp [hc])] at hj
  cases hw : waitF d h of_ with
  | none => rw [hw] at hj; simp at hj
  | some p =>
    obtain ⟨l', q'⟩ := p
    rw [hw] at hj
    simp only [Prod.mk.injEq] at hj
    obtain ⟨rfl, rfl, _⟩ := hj
    have hp : waitP d h of_ = (l', q', true) := by unfold waitP; rw [hw]
    obtain ⟨rr, e2, hrr⟩ := l07Replay_E d h of_ hd ho (by rw [hp]; exact hln)
    rw [hp] at hrr
    simp only [eDisk] at e1 e2
    rcases hrr with ⟨h3, rfl⟩ | ⟨⟨_, h3⟩, rfl⟩
    · obtain rfl : l' = [] := h3.resolve_left (fun h => by cases h)
      rcases hl with ⟨_, rfl⟩ | ⟨hl, _⟩
      · refine E_fin Try.f45 _ an45 rfl rfl rfl Try.func45 rfl (by kernel_rfl) ?_
        simp [go_sem, eDisk, e1, e2]
      · exact absurd rfl hl
    · rcases hl with ⟨hl, _⟩ | ⟨_, rfl⟩
      · exact absurd hl h3
      · refine E_fin Try.f45 _ an45 rfl rfl rfl Try.func45 rfl (by kernel_rfl) ?_
        simp only at e2
        simp [go_sem, eDisk, e1, e2]
end Go.Proofs.Ytccoeoppjcegnaa

namespace Go.Proofs.Ytccoeoppjcegnaa
open Go
set_option maxRecDepth 100000
set_option maxHeartbeats 1000000
set_option linter.unusedSimpArgs false
set_option linter.unusedVariables false
structure Src where
  bs : List Int
  n : Nat
  acc : Int
def eSrc (s : Src) : Blk := ⟨true, 158, 3, [.agg [.sl 1 (s.bs.map (.int .u8)), .int .i64 s.n, .int .i64 s.acc]]⟩
structure SrcOK (s : Src) (k : Nat) : Prop where
  bytes : ∀ b ∈ s.bs, 0 ≤ b ∧ b < 256
  n : s.n ≤ k
  acc : 0 ≤ s.acc ∧ s.acc < 2147483648
  len : s.bs.length ≤ 1073741824
def byteF (s : Src) : Int × Src :=
  if s.n < s.bs.length then (s.bs.getD s.n 0, ⟨s.bs, s.n + 1, (s.acc * 31 + s.bs.getD s.n 0 + 7).tmod 2147483648⟩)
  else if 3000 < s.n + 1 then (0, ⟨s.bs, s.n + 1, s.acc⟩)
  else (((s.acc * 1103515245 + 12345).tmod 2147483648).tdiv 65536 |>.tmod 256, ⟨s.bs, s.n + 1, (s.acc * 1103515245 + 12345).tmod 2147483648⟩)
theorem byteF_ok {s : Src} {k : Nat} (g : SrcOK s k) : SrcOK (byteF s).2 (k + 1) ∧ 0 ≤ (byteF s).1 ∧ (byteF s).1 < 256 := by
  have h1 := g.bytes; have h2 := g.n; have h3 := g.acc; have h4 := g.len
  unfold byteF
  split
  · rename_i h
    have hb := h1 s.bs[s.n] (List.getElem_mem h)
    rw [List.getD_eq_getElem?_getD, List.getElem?_eq_getElem h, Option.getD_some]
    refine ⟨⟨h1, by simp only; omega, ?_, h4⟩, hb⟩
    simp only
    rw [Int.tmod_eq_emod_of_nonneg (by omega)]
    omega
  · split
    · exact ⟨⟨h1, by simp only; omega, h3, h4⟩, by omega, by omega⟩
    · refine ⟨⟨h1, by simp only; omega, ?_, h4⟩, ?_⟩
      · simp only
        rw [Int.tmod_eq_emod_of_nonneg (by omega)]
        omega
      · simp only
        rw [Int.tmod_eq_emod_of_nonneg (show (0:Int) ≤ s.acc * 1103515245 + 12345 by omega), Int.tdiv_eq_ediv_of_nonneg (by omega), Int.tmod_eq_emod_of_nonneg (by omega)]
        omega
theorem byte_E (s : Src) (k : Nat) (hk : k ≤ 1000000000) (g : SrcOK s k) : E CX 186 [.ptr [0] 0 0] [([0], eSrc s)] = some { val := .int .i64 (byteF s).1, io := [eSrc (byteF s).2] } := by
  have h1 := g.bytes; have h2 := g.n; have h3 := g.acc; have h4 := g.len
  refine E_fin Try.f186 _ an186 rfl rfl rfl Try.func186 rfl (by kernel_rfl) ?_
  unfold byteF
  by_cases h : s.n < s.bs.length
  · have hb := h1 s.bs[s.n] (List.getElem_mem h)
    simp [go_sem, eSrc, h, wrap_id (n := (s.n : Int) + 1) (by omega), wrap_id (n := (s.n : Int)) (by omega), wrap_id (n := s.acc * 31) (by omega), wrap_id (n := s.acc * 31 + s.bs[s.n]) (by omega), wrap_id (n := s.acc * 31 + s.bs[s.n] + 7) (by omega), wrap_id (n := s.bs[s.n]) (by omega), show ((s.n : Int) + 1 ≤ s.bs.length) by omega]
  · by_cases h' : 3000 < s.n + 1
    · simp [go_sem, eSrc, h, h', wrap_id (n := (s.n : Int) + 1) (by omega), show ¬ ((s.n : Int) + 1 ≤ s.bs.length) by omega, show (3000 : Int) < (s.n : Int) + 1 by omega]
    · have hd : 0 ≤ ((s.acc * 1103515245 + 12345).tmod 2147483648).tdiv 65536 ∧ ((s.acc * 1103515245 + 12345).tmod 2147483648).tdiv 65536 < 32768 := by
        rw [Int.tmod_eq_emod_of_nonneg (show (0:Int) ≤ s.acc * 1103515245 + 12345 by omega), Int.tdiv_eq_ediv_of_nonneg (by omega)]
        omega
      simp [go_sem, eSrc, h, h', wrap_id (n := ((s.acc * 1103515245 + 12345).tmod 2147483648).tdiv 65536) (by omega), wrap_id (n := (s.n : Int) + 1) (by omega), show ¬ ((s.n : Int) + 1 ≤ s.bs.length) by omega, show ¬ (3000 : Int) < (s.n : Int) + 1 by omega, wrap_id (n := s.acc * 1103515245) (by omega), wrap_id (n := s.acc * 1103515245 + 12345) (by omega)]
def nextF (m : Int) (s : Src) : Int × Src :=
  if m ≤ 1 then (0, s) else if m ≤ 256 then ((byteF s).1.tmod m, (byteF s).2)
  else (((byteF s).1 * 65536 + (byteF (byteF s).2).1 * 256 + (byteF (byteF (byteF s).2).2).1).tmod m, (byteF (byteF (byteF s).2).2).2)
theorem SrcOK.mono {s : Src} {k j : Nat} (g : SrcOK s k) (h : k ≤ j) : SrcOK s j := ⟨g.bytes, by have := g.n; omega, g.acc, g.len⟩
theorem nextF_ok {s : Src} {k : Nat} (m : Int) (g : SrcOK s k) : SrcOK (nextF m s).2 (k + 3) ∧ 0 ≤ (nextF m s).1 ∧ ((nextF m s).1 < m ∨ (nextF m s).1 = 0) := by
  obtain ⟨g1, a1, b1⟩ := byteF_ok g
  obtain ⟨g2, a2, b2⟩ := byteF_ok g1
  obtain ⟨g3, a3, b3⟩ := byteF_ok g2
  unfold nextF
  split
  · exact ⟨g.mono (by omega), by simp, .inr rfl⟩
  · split
    · refine ⟨g1.mono (by omega), ?_, .inl ?_⟩
      · simp only; rw [Int.tmod_eq_emod_of_nonneg a1]; exact Int.emod_nonneg _ (by omega)
      · simp only; rw [Int.tmod_eq_emod_of_nonneg a1]; exact Int.emod_lt_of_pos _ (by omega)
    · refine ⟨g3, ?_, .inl ?_⟩
      · simp only; rw [Int.tmod_eq_emod_of_nonneg (by omega)]; exact Int.emod_nonneg _ (by omega)
      · simp only; rw [Int.tmod_eq_emod_of_nonneg (by omega)]; exact Int.emod_lt_of_pos _ (by omega)
theorem next_E (m : Int) (s : Src) (k : Nat) (hk : k ≤ 900000000) (g : SrcOK s k) : E CX 139 [.ptr [0] 0 0, .int .i64 m] [([0], eSrc s)] = some { val := .int .i64 (nextF m s).1, io := [eSrc (nextF m s).2] } := by
  refine E_fin Try.f139 _ an139 rfl rfl rfl Try.func139 rfl (by kernel_rfl) ?_
  obtain ⟨g1, a1, b1⟩ := byteF_ok g
  obtain ⟨g2, a2, b2⟩ := byteF_ok g1
  obtain ⟨g3, a3, b3⟩ := byteF_ok g2
  have e1 := byte_E s k (by omega) g
  have e2 := byte_E (byteF s).2 (k + 1) (by omega) g1
  have e3 := byte_E (byteF (byteF s).2).2 (k + 1 + 1) (by omega) g2
  unfold nextF
  generalize byteF (byteF (byteF s).2).2 = x3 at *
  generalize byteF (byteF s).2 = x2 at *
  generalize byteF s = x1 at *
  by_cases h1 : m ≤ 1
  · simp [go_sem, eSrc, h1]
  · by_cases h2 : m ≤ 256
    · simp only [eSrc] at e1
      have h0 : ¬ m = 0 := by omega
      simp [go_sem, eSrc, h1, h2, h0, e1]
    · simp only [eSrc] at e1 e2 e3
      have h0 : ¬ m = 0 := by omega
      simp [go_sem, eSrc, h1, h2, h0, e1, e2, e3, wrap_id (n := x1.1 * 65536) (by omega), wrap_id (n := x2.1 * 256) (by omega), wrap_id (n := x1.1 * 65536 + x2.1 * 256) (by omega), wrap_id (n := x1.1 * 65536 + x2.1 * 256 + x3.1) (by omega)]
def someF : List Unit → Tx × Src → Tx × Src
  | [], a => a
  | _ :: r, a => someF r (a.1 ++ [byteOf (97 + (nextF 26 a.2).1)], (nextF 26 a.2).2)
theorem someF_ok : ∀ (l : List Unit) (a : Tx × Src) (k : Nat), SrcOK a.2 k → SrcOK (someF l a).2 (k + 3 * l.length) ∧ (someF l a).1.length = a.1.length + l.length := by
  intro l
  induction l with
  | nil => intro a k g; exact ⟨g, rfl⟩
  | cons u l ih =>
    intro a k g
    obtain ⟨h1, h2⟩ := ih (a.1 ++ [byteOf (97 + (nextF 26 a.2).1)], (nextF 26 a.2).2) (k + 3) (nextF_ok 26 g).1
    unfold someF
    refine ⟨h1.mono (by simp; omega), ?_⟩
    rw [h2]; simp; omega
theorem some_E (m : Nat) (s : Src) (k : Nat) (hk : k ≤ 800000000) (hm : m ≤ 1000000) (g : SrcOK s k) : E CX 187 [.ptr [0] 0 0, .int .i64 m] [([0], eSrc s)] = some { val := .str (someF (List.replicate m ()) ([], s)).1, io := [eSrc (someF (List.replicate m ()) ([], s)).2] } := by
  refine E_fin Try.f187 _ an187 rfl rfl rfl Try.func187 rfl (by kernel_rfl) ?_
  have hl : (List.replicate m ()).length = m := by simp
  generalize List.replicate m () = l at *
  simp [go_sem, eSrc]
  refine loop_for (fun X => fin CX _ _ X = _) l (fun n (a : Tx × Src) => a.1.length = n ∧ SrcOK a.2 (k + 3 * n)) (fun n a => ⟨SS [(0, .ptr [0] 0 0), (1, .int .i64 m), (5, .ref [7] 0 a.1.length), (6, .int .i64 n)], HS [([0], eSrc a.2), ([7], ⟨false, 5, 1, a.1.map eByte⟩)]⟩)
    (fun r n a => (.exit 0, ⟨SS [(5, .ref [7] 0 (someF r a).1.length)], HS [([7], ⟨false, 5, 1, (someF r a).1.map eByte⟩), ([0], eSrc (someF r a).2)]⟩)) ([], s) ⟨rfl, g⟩ ?_ ?_ ?_ ?_ ?_
  · simp [go_sem, eSrc]
  · intro R n a x r hn hx hd hI hR
    have e1 := next_E 26 a.2 (k + 3 * n) (by omega) hI.2
    have hv := nextF_ok 26 hI.2
    have := hR (a.1 ++ [byteOf (97 + (nextF 26 a.2).1)], (nextF 26 a.2).2) ⟨by simp [hI.1], hv.1.mono (by omega)⟩ (by simp [someF])
    generalize nextF 26 a.2 = v at *
    simp only [eSrc] at e1
    simp [go_sem, eByte, eSrc] at this
    simp [go_sem, eSrc, e1, wrap_u8, show (n : Int) < m by omega, show a.1.length + 1 ≤ 1073741824 by omega, wrap_id (n := (n : Int) + 1) (by omega), wrap_id (n := 97 + v.1) (by omega)]
    exact this
  · intro a hI; simp [go_sem, someF, eSrc, hl]
  · intro _; simp
  · have hlen := (someF_ok l ([], s) k g).2
    simp at hlen
    simp [go_sem, eSrc, bytesOf_map, show (someF l ([], s)).1.length ≤ 1099511627776 by omega]
end Go.Proofs.Ytccoeoppjcegnaa

namespace Go.Proofs.Ytccoeoppjcegnaa
open Go
set_option maxRecDepth 100000
set_option maxHeartbeats 1000000
set_option linter.unusedSimpArgs false
set_option linter.unusedVariables false
theorem l00Source_E (bs : List Int) (h : bs.length ≤ 1073741824) : E CX 59 [.sl 1 (bs.map (.int .u8))] [] = some { val := .ptr [0, 0, 0, 0] 0 0, own := [eSrc ⟨bs, 0, (bs.length : Int).tmod 1000⟩] } := by
  refine E_fin Try.f59 _ an59 rfl rfl rfl Try.func59 rfl (by kernel_rfl) ?_
  simp [go_sem, eSrc]
theorem source_ok (bs : List Int) (h : bs.length ≤ 1073741824) (hb : ∀ b ∈ bs, 0 ≤ b ∧ b < 256) : SrcOK ⟨bs, 0, (bs.length : Int).tmod 1000⟩ 0 := by
  refine ⟨hb, by simp, ?_, h⟩
  simp only
  rw [Int.tmod_eq_emod_of_nonneg (by omega)]
  omega
def updateF (s : Src) : Update × Src :=
  (⟨9 + (nextF 20 s).1, (someF (List.replicate (nextF 9 (nextF 20 s).2).1.toNat ()) ([], (nextF 9 (nextF 20 s).2).2)).1⟩, (someF (List.replicate (nextF 9 (nextF 20 s).2).1.toNat ()) ([], (nextF 9 (nextF 20 s).2).2)).2)
theorem updateF_ok {s : Src} {k : Nat} (g : SrcOK s k) : SrcOK (updateF s).2 (k + 30) ∧ 9 ≤ (updateF s).1.at_ ∧ (updateF s).1.at_ ≤ 28 ∧ (updateF s).1.data.length ≤ 8 := by
  obtain ⟨g1, a1, b1⟩ := nextF_ok 20 g
  obtain ⟨g2, a2, b2⟩ := nextF_ok 9 g1
  obtain ⟨g3, hl⟩ := someF_ok (List.replicate (nextF 9 (nextF 20 s).2).1.toNat ()) ([], (nextF 9 (nextF 20 s).2).2) _ g2
  unfold updateF
  refine ⟨g3.mono (by simp; omega), by simp only; omega, by simp only; omega, ?_⟩
  simp only
  rw [hl]; simp; omega
theorem update_E (s : Src) (k : Nat) (hk : k ≤ 700000000) (g : SrcOK s k) : E CX 140 [.ptr [0] 0 0] [([0], eSrc s)] = some { val := eUpdate (updateF s).1, io := [eSrc (updateF s).2] } := by
  refine E_fin Try.f140 _ an140 rfl rfl rfl Try.func140 rfl (by kernel_rfl) ?_
  obtain ⟨g1, a1, b1⟩ := nextF_ok 20 g
  obtain ⟨g2, a2, b2⟩ := nextF_ok 9 g1
  have e1 := next_E 20 s k (by omega) g
  have e2 := next_E 9 (nextF 20 s).2 (k + 3) (by omega) g1
  have e3 := some_E (nextF 9 (nextF 20 s).2).1.toNat (nextF 9 (nextF 20 s).2).2 (k + 3 + 3) (by omega) (by omega) g2
  rw [show (((nextF 9 (nextF 20 s).2).1.toNat : Nat) : Int) = (nextF 9 (nextF 20 s).2).1 by omega] at e3
  unfold updateF
  generalize someF (List.replicate (nextF 9 (nextF 20 s).2).1.toNat ()) ([], (nextF 9 (nextF 20 s).2).2) = y at *
  generalize nextF 9 (nextF 20 s).2 = v at *
  generalize nextF 20 s = u at *
  simp only [eSrc] at e1 e2 e3
  simp [go_sem, eSrc, eUpdate, e1, e2, e3, wrap_id (n := 9 + u.1) (by omega)]
def updatesF : List Unit → List Update × Src → List Update × Src
  | [], a => a
  | _ :: r, a => updatesF r (a.1 ++ [(updateF a.2).1], (updateF a.2).2)
theorem updatesF_ok : ∀ (l : List Unit) (a : List Update × Src) (k : Nat), SrcOK a.2 k → (∀ x ∈ a.1, 9 ≤ x.at_ ∧ x.at_ ≤ 28 ∧ x.data.length ≤ 8) →
    SrcOK (updatesF l a).2 (k + 30 * l.length) ∧ (updatesF l a).1.length = a.1.length + l.length ∧ ∀ x ∈ (updatesF l a).1, 9 ≤ x.at_ ∧ x.at_ ≤ 28 ∧ x.data.length ≤ 8 := by
  intro l
  induction l with
  | nil => intro a k g h; exact ⟨g, rfl, h⟩
  | cons u l ih =>
    intro a k g h
    obtain ⟨g1, q1⟩ := updateF_ok g
    obtain ⟨h1, h2, h3⟩ := ih (a.1 ++ [(updateF a.2).1], (updateF a.2).2) (k + 30) g1 (by
      intro x hx
      simp only [List.mem_append, List.mem_singleton] at hx
      rcases hx with hx | rfl
      · exact h x hx
      · exact q1)
    unfold updatesF
    refine ⟨h1.mono (by simp; omega), ?_, h3⟩
    rw [h2]; simp; omega
theorem updates_E (s : Src) (k : Nat) (hk : k ≤ 600000000) (g : SrcOK s k) : ∃ l : List Unit, l.length ≤ 4 ∧ E CX 60 [.ptr [0] 0 0] [([0], eSrc s)] = some { val := .ref [0, 0, 0, 0] 0 (updatesF l ([], (nextF 5 s).2)).1.length, own := [⟨false, 39, 2, (updatesF l ([], (nextF 5 s).2)).1.map eUpdate⟩], io := [eSrc (updatesF l ([], (nextF 5 s).2)).2] } := by
  obtain ⟨g1, a1, b1⟩ := nextF_ok 5 g
  have e1 := next_E 5 s k (by omega) g
  generalize nextF 5 s = u at *
  obtain ⟨v, s1⟩ := u
  simp only at g1 a1 b1
  refine ⟨List.replicate v.toNat (), by simp; omega, ?_⟩
  have hl : (List.replicate v.toNat ()).length = v.toNat := by simp
  generalize List.replicate v.toNat () = l at *
  refine E_fin Try.f60 _ an60 rfl rfl rfl Try.func60 rfl (by kernel_rfl) ?_
  simp only [eSrc] at e1
  simp [go_sem, eSrc, e1]
  refine loop_for (fun X => fin CX _ _ X = _) l (fun n (a : List Update × Src) => a.1.length = n ∧ SrcOK a.2 (k + 3 + 30 * n)) (fun n a => ⟨SS [(0, .ptr [0] 0 0), (3, .ref [5] 0 a.1.length), (4, .int .i64 (v - n))], HS [([0], eSrc a.2), ([5], ⟨false, 39, 2, a.1.map eUpdate⟩)]⟩)
    (fun r n a => (.exit 0, ⟨SS [(3, .ref [5] 0 (updatesF r a).1.length)], HS [([5], ⟨false, 39, 2, (updatesF r a).1.map eUpdate⟩), ([0], eSrc (updatesF r a).2)]⟩)) ([], s1) ⟨rfl, g1⟩ ?_ ?_ ?_ ?_ ?_
  · simp [go_sem, eSrc]
  · intro R n a x r hn hx hd hI hR
    have e2 := update_E a.2 (k + 3 + 30 * n) (by omega) hI.2
    have hv := updateF_ok hI.2
    have := hR (a.1 ++ [(updateF a.2).1], (updateF a.2).2) ⟨by simp [hI.1], hv.1.mono (by omega)⟩ (by simp [updatesF])
    generalize updateF a.2 = w at *
    simp only [eSrc, eUpdate] at e2
    simp [go_sem, eUpdate, eSrc, show v - ((n : Int) + 1) = v - n - 1 by omega] at this
    simp [go_sem, eSrc, eUpdate, e2, show (n : Int) < v by omega, show (0 : Int) < v - n by omega, show a.1.length + 1 ≤ 1073741824 by omega, wrap_id (n := v - (n : Int) - 1) (by omega)]
    exact this
  · intro a hI
    have : v - (l.length : Int) = 0 := by omega
    simp [go_sem, updatesF, eSrc, this]
  · intro _; simp
  · simp [go_sem, eSrc]
theorem updatesOf_E (bs : List Int) (h : bs.length ≤ 1073741824) (hb : ∀ b ∈ bs, 0 ≤ b ∧ b < 256) : ∃ l : List Update, E CX 13 [.sl 1 (bs.map (.int .u8))] [] = some { val := .sl 2 (l.map eUpdate) } ∧ l.length ≤ 4 ∧ ∀ x ∈ l, 9 ≤ x.at_ ∧ x.at_ ≤ 28 ∧ x.data.length ≤ 8 := by
  have e1 := l00Source_E bs h
  have g := source_ok bs h hb
  obtain ⟨l, hl, e2⟩ := updates_E _ 0 (by omega) g
  obtain ⟨g1, _, _⟩ := nextF_ok 5 g
  obtain ⟨_, h2, h3⟩ := updatesF_ok l ([], (nextF 5 ⟨bs, 0, (bs.length : Int).tmod 1000⟩).2) _ g1 (by simp)
  generalize (updatesF l ([], (nextF 5 ⟨bs, 0, (bs.length : Int).tmod 1000⟩).2)) = us at *
  obtain ⟨us, s⟩ := us
  simp only at h2 h3 e2
  refine ⟨us, ?_, by simp at h2; omega, h3⟩
  refine E_fin Try.f13 _ an13 rfl rfl rfl Try.func13 rfl (by kernel_rfl) ?_
  simp only [eSrc] at e1 e2
  rw [show ((0 : Nat) : Int) = 0 from rfl] at e1 e2
  simp [go_sem, e1, e2]
end Go.Proofs.Ytccoeoppjcegnaa

namespace Go.Proofs.Ytccoeoppjcegnaa
open Go
set_option maxRecDepth 100000
set_option maxHeartbeats 1000000
set_option linter.unusedSimpArgs false
set_option linter.unusedVariables false
theorem sameTexts_E (a b : List Tx) (ha : a.length ≤ 1073741824) : E CX 20 [.sl 1 (a.map .str), .sl 1 (b.map .str)] [] = some { val := .bool (decide (a = b)) } := by
  refine E_fin Try.f20 _ an20 rfl rfl rfl Try.func20 rfl (by kernel_rfl) ?_
  by_cases hl : a.length = b.length
  · simp [go_sem, hl]
    refine loop_list (fun X => fin CX _ _ X = _) a (fun n _ => True) (fun n (_ : Unit) => ⟨SS [(0, .sl 1 (a.map .str)), (1, .sl 1 (b.map .str)), (5, .int .i64 n)], HE⟩) (fun l n _ => if l = b.drop n then (.exit 0, ⟨SS [], HE⟩) else (.ret, ⟨SS [(4, .bool false)], HE⟩)) () trivial ?_ ?_ ?_ ?_ ?_
    · simp [go_sem]
    · intro n _ x t hn hx hd _
      have hn' : n < b.length := by omega
      obtain ⟨y, u, hy, hu, hu'⟩ := cut_at hn'
      have hx := hx hn
      by_cases hxy : x = y
      · simp [go_sem, hn, hn', hx, hy, hxy, hu, hu', wrap_id (n := (n : Int) + 1) (by omega)]
      · simp [go_sem, hn, hn', hx, hy, hxy, hu, hu']
    · intro _ _; simp [go_sem, hl]
    · intro _; simp [hl]
    · by_cases h : a = b <;> simp [go_sem, h]
  · have : a ≠ b := fun h => hl (by rw [h])
    have hl' : ¬ ((a.length : Int) = b.length) := by omega
    simp [go_sem, hl', this]
theorem sameMoves_E (a b : List Move) (ha : a.length ≤ 1073741824) : E CX 19 [.sl 3 (a.map eMove), .sl 3 (b.map eMove)] [] = some { val := .bool (decide (a = b)) } := by
  refine E_fin Try.f19 _ an19 rfl rfl rfl Try.func19 rfl (by kernel_rfl) ?_
  by_cases hl : a.length = b.length
  · simp [go_sem, hl]
    refine loop_list (fun X => fin CX _ _ X = _) a (fun n _ => True) (fun n (_ : Unit) => ⟨SS [(0, .sl 3 (a.map eMove)), (1, .sl 3 (b.map eMove)), (5, .int .i64 n)], HE⟩) (fun l n _ => if l = b.drop n then (.exit 0, ⟨SS [], HE⟩) else (.ret, ⟨SS [(4, .bool false)], HE⟩)) () trivial ?_ ?_ ?_ ?_ ?_
    · simp [go_sem]
    · intro n _ x t hn hx hd _
      have hn' : n < b.length := by omega
      obtain ⟨y, u, hy, hu, hu'⟩ := cut_at hn'
      have hx := hx hn
      obtain ⟨x0, x1, x2⟩ := x
      obtain ⟨y0, y1, y2⟩ := y
      by_cases h0 : x0 = y0
      · by_cases h1 : x1 = y1
        · by_cases h2 : x2 = y2
          · simp [go_sem, eMove, hn, hn', hx, hy, h0, h1, h2, hu, hu', wrap_id (n := (n : Int) + 1) (by omega)]
          · simp [go_sem, eMove, hn, hn', hx, hy, h0, h1, h2, hu, hu']
        · simp [go_sem, eMove, hn, hn', hx, hy, h0, h1, hu, hu']
      · simp [go_sem, eMove, hn, hn', hx, hy, h0, hu, hu']
    · intro _ _; simp [go_sem, hl]
    · intro _; simp [hl]
    · by_cases h : a = b <;> simp [go_sem, h]
  · have : a ≠ b := fun h => hl (by rw [h])
    have hl' : ¬ ((a.length : Int) = b.length) := by omega
    simp [go_sem, hl', this]
theorem at_E (bs : List Int) (i n : Int) (hb : ∀ b ∈ bs, 0 ≤ b ∧ b < 256) (hl : bs.length ≤ 1073741824) (hi : 0 ≤ i ∧ i ≤ 1000000) (hn : n ≤ 1000000) : ∃ v : Int, E CX 14 [.sl 1 (bs.map (.int .u8)), .int .i64 i, .int .i64 n] [] = some { val := .int .i64 v } ∧ 0 ≤ v ∧ (v < n ∨ v = 0) := by
  by_cases h1 : n ≤ 1
  · refine ⟨0, ?_, by omega, .inr rfl⟩
    refine E_fin Try.f14 _ an14 rfl rfl rfl Try.func14 rfl (by kernel_rfl) ?_
    simp [go_sem, h1]
  · have hn0 : ¬ n = 0 := by omega
    by_cases h2 : bs = []
    · subst h2
      refine ⟨(i * 7).tmod n, ?_, ?_, .inl ?_⟩
      · refine E_fin Try.f14 _ an14 rfl rfl rfl Try.func14 rfl (by kernel_rfl) ?_
        simp [go_sem, h1, hn0, wrap_id (n := i * 7) (by omega)]
      · rw [Int.tmod_eq_emod_of_nonneg (by omega)]; exact Int.emod_nonneg _ (by omega)
      · rw [Int.tmod_eq_emod_of_nonneg (by omega)]; exact Int.emod_lt_of_pos _ (by omega)
    · have hlen : 0 < bs.length := List.length_pos_iff.2 h2
      have hz : ¬ (bs.length : Int) = 0 := by omega
      have m1 : 0 ≤ i.tmod bs.length ∧ i.tmod bs.length < bs.length := by
        rw [Int.tmod_eq_emod_of_nonneg (by omega)]; exact ⟨Int.emod_nonneg _ (by omega), Int.emod_lt_of_pos _ (by omega)⟩
      have m2 : 0 ≤ (i + 1).tmod bs.length ∧ (i + 1).tmod bs.length < bs.length := by
        rw [Int.tmod_eq_emod_of_nonneg (by omega)]; exact ⟨Int.emod_nonneg _ (by omega), Int.emod_lt_of_pos _ (by omega)⟩
      have m3 : 0 ≤ i.tdiv bs.length ∧ i.tdiv bs.length ≤ 1000000 := by
        rw [Int.tdiv_eq_ediv_of_nonneg (by omega)]
        exact ⟨Int.ediv_nonneg (by omega) (by omega), Int.le_trans (Int.ediv_le_self _ (by omega)) (by omega)⟩
      obtain ⟨x, hx⟩ : ∃ x, bs[(i.tmod bs.length).toNat]? = some x := ⟨_, List.getElem?_eq_getElem (by omega)⟩
      obtain ⟨y, hy⟩ : ∃ y, bs[((i + 1).tmod bs.length).toNat]? = some y := ⟨_, List.getElem?_eq_getElem (by omega)⟩
      have bx := hb x (List.mem_of_getElem? hx)
      have bY := hb y (List.mem_of_getElem? hy)
      refine ⟨(x * 31 + y + i.tdiv bs.length).tmod n, ?_, ?_, .inl ?_⟩
      · refine E_fin Try.f14 _ an14 rfl rfl rfl Try.func14 rfl (by kernel_rfl) ?_
        have w0 := wrap_id (n := i.tdiv (bs.length : Int)) (by omega)
        have t1 : (i.tmod bs.length).toNat < bs.length := by omega
        have t2 : ((i + 1).tmod bs.length).toNat < bs.length := by omega
        have hx' : bs[(i.tmod bs.length).toNat] = x := by rw [List.getElem?_eq_getElem t1] at hx; injection hx
        have hy' : bs[((i + 1).tmod bs.length).toNat] = y := by rw [List.getElem?_eq_getElem t2] at hy; injection hy
        simp [go_sem, h1, hn0, h2, hz, hx', hy', m1.1, m2.1, t1, t2, w0, wrap_id (n := i + 1) (by omega), wrap_id (n := x) (by omega), wrap_id (n := y) (by omega), wrap_id (n := x * 31) (by omega), wrap_id (n := x * 31 + y) (by omega), wrap_id (n := x * 31 + y + i.tdiv bs.length) (by omega)]
      · rw [Int.tmod_eq_emod_of_nonneg (by omega)]; exact Int.emod_nonneg _ (by omega)
      · rw [Int.tmod_eq_emod_of_nonneg (by omega)]; exact Int.emod_lt_of_pos _ (by omega)
end Go.Proofs.Ytccoeoppjcegnaa

namespace Go.Proofs.Ytccoeoppjcegnaa
open Go
set_option maxRecDepth 100000
set_option maxHeartbeats 4000000
set_option linter.unusedSimpArgs false
set_option linter.unusedVariables false
theorem moves_pre_ok (h q : Int) (l : List Update) (hh : 0 ≤ h ∧ h ≤ 3) (hl : l.length ≤ 4) (hu : ∀ x ∈ l, 9 ≤ x.at_ ∧ x.at_ ≤ 28 ∧ x.data.length ≤ 8) : (planF h q l).length ≤ 20 ∧ ∀ m ∈ planF h q l, moveOK m = true := by
  by_cases hne : l = []
  · subst hne; simp [planF]
  · have hp := plan0_ok h q l hh hl hu
    rw [planF_eq h q l hne]
    refine ⟨by simp [plan0, jmF_length]; omega, fun m hm => ?_⟩
    simp only [List.mem_append, List.mem_singleton] at hm
    rcases hm with hm | rfl
    · exact (hp m hm).1
    · decide
theorem code_ok {d : Disk} {h : Int} {p : List Move} (hd : diskOK d = true) (hh : inn h 0 3 = true) (hp : p.length ≤ 20) (hm : ∀ m ∈ p, moveOK m = true) : movesCode d h p = 0 ∧ ∀ m ∈ p, m.kind ≠ 2 → 0 ≤ m.at_ ∧ m.at_.toNat < 64 := by
  have ha : p.all moveOK = true := List.all_eq_true.2 hm
  have hask : askC d h = 0 := by simp [askC, hd, hh]
  refine ⟨by simp [movesCode, firstP, hask, ha]; omega, fun m h1 h2 => moveOK_at (hm m h1) h2⟩
theorem atomicFn_E (b0 b1 : List Int) (h0 : ∀ b ∈ b0, 0 ≤ b ∧ b < 256) (h1 : ∀ b ∈ b1, 0 ≤ b ∧ b < 256) (top0 : b0.length ≤ top) (top1 : b1.length ≤ top) :
    E CX 7 [.sl 1 (b0.map (.int .u8)), .sl 1 (b1.map (.int .u8))] [] = some { val := .bool true } := by
  by_cases l0 : 1048576 < b0.length
  · refine E_fin Try.f7 _ an7 rfl rfl rfl Try.func7 rfl (by kernel_rfl) ?_
    simp [go_sem, show (1048576 : Int) < b0.length by omega]
  by_cases l1 : 1048576 < b1.length
  · refine E_fin Try.f7 _ an7 rfl rfl rfl Try.func7 rfl (by kernel_rfl) ?_
    simp [go_sem, show ¬ (1048576 : Int) < b0.length by omega, show (1048576 : Int) < b1.length by omega]
  obtain ⟨us, e1, hus, hu⟩ := updatesOf_E b0 (by omega) h0
  obtain ⟨h, e2, ha, hb⟩ := at_E b1 0 4 h1 (by omega) (by omega) (by omega)
  have hh : 0 ≤ h ∧ h ≤ 3 := by omega
  obtain ⟨hpl, hpm⟩ := moves_pre_ok h 5 us hh hus hu
  have hok : us.all updOK = true := by
    rw [List.all_eq_true]
    intro u hm
    have := hu u hm
    simp [updOK, inn]; omega
  have i1 : inn h 0 3 = true := by simp [inn]; omega
  have e4 := journalPlan_E h 5 us i1 (by decide) (by omega) hok
  -- how far the host came
  obtain ⟨c, e3, hc, hd⟩ := at_E b1 1 ((planF h 5 us).length + 1) h1 (by omega) (by omega) (by omega)
  have hcl : c.toNat ≤ (planF h 5 us).length := by omega
  have htl : ((planF h 5 us).take c.toNat).length = c.toNat := by simp; omega
  obtain ⟨hmc, hkm⟩ := code_ok (d := d64) (h := h) (p := (planF h 5 us).take c.toNat) d64_ok i1 (by omega) (fun m hm => hpm m (List.mem_of_mem_take hm))
  have e6 := movesDo_done d64 h ((planF h 5 us).take c.toNat) (by decide) (by decide) (by omega) hmc (by simp [d64]; omega) ⟨by decide, by decide, by intro x hx; cases hx⟩ hkm
  -- what is left of it
  obtain ⟨kp, e7, hf, hg⟩ := at_E b1 2 6 h1 (by omega) (by omega) (by omega)
  obtain ⟨k, hk, hset⟩ := crash h E64 ((planF h 5 us).take c.toNat) (by omega) kp hf
  have hkc : k ≤ c.toNat := by omega
  have gx : Good (((planF h 5 us).take c.toNat).foldl (mvT h) (d64, [])).1 200 := by
    have := moves_good h ((planF h 5 us).take c.toNat) d64 0 ⟨by decide, by decide, by intro x hx; cases hx⟩ hkm
    rw [moves_alike h _ d64 [] (by simp [d64]; omega)]
    exact ⟨this.ss, by have := this.ps; omega, this.at_⟩
  have hxok : diskOK (((planF h 5 us).take c.toNat).foldl (mvT h) (d64, [])).1 = true := by
    exact moves_ok h i1 _ d64 [] d64_ok (by simp [d64]; omega) (fun m hm => hpm m (List.mem_of_mem_take hm))
  have e8 := loseHost_E (((planF h 5 us).take c.toNat).foldl (mvT h) (d64, [])).1 h kp hxok i1 (by simp [inn]; omega)
  have hset' : settleD (((planF h 5 us).take c.toNat).foldl (mvT h) (d64, [])).1 h kp true = ⟨((planF h 5 us).take k).foldl wr E64, []⟩ := by
    have := hset
    rw [List.take_take, Nat.min_eq_left (by omega)] at this
    exact this
  rw [hset'] at e8
  obtain ⟨rp, z, hyok, hrep, A⟩ := atomic h 5 us hh (by omega) hus hu k
  have hmod : 0 ≤ (h + 1).tmod 4 ∧ (h + 1).tmod 4 ≤ 3 := by rw [Int.tmod_eq_emod_of_nonneg (by omega)]; omega
  have y1 : (((planF h 5 us).take k).foldl wr E64).length = 64 := by rw [wr_length]; decide
  generalize ((planF h 5 us).take k).foldl wr E64 = ys at *
  have hrp := hrep _ hmod
  have i2 : inn ((h + 1).tmod 4) 0 3 = true := by simp [inn]; omega
  have e10 := sReplayPlan_ok ⟨ys, []⟩ ((h + 1).tmod 4) h rp (by simp only; omega) (by simp) hrp
  have e9 := replayPlan_ok ⟨ys, []⟩ ((h + 1).tmod 4) h rp (by simp only; omega) (by simp) hrp
  obtain ⟨hmc2, hkm2⟩ := code_ok (d := ⟨ys, []⟩) (h := (h + 1).tmod 4) (p := rp) hyok i2 (by have := A.len; omega) A.oks
  have e11 := movesDo_done ⟨ys, []⟩ ((h + 1).tmod 4) rp (by simp only; omega) (by simp) (by have := A.len; omega) hmc2 (by have := A.len; simp; omega) ⟨y1, by simp, by intro x hx; cases hx⟩ hkm2
  rw [A.done] at e11
  have e12 := sameMoves_E rp rp (by have := A.len; omega)
  simp at e12
  obtain ⟨q', hj⟩ := A.left _ hmod
  obtain ⟨rg, e13, hgg⟩ := journalOf_E ⟨z, []⟩ ((h + 1).tmod 4) h (by have := (diskOK_good A.ok).ss; simp only at this ⊢; omega) (by simp)
  rw [hj] at hgg
  have z1 : z.length = 64 := (diskOK_good A.ok).ss
  have e14 := sameTexts_E ((z.drop 9).take 30) ((E64.drop 9).take 30) (by simp; omega)
  have e15 := sameTexts_E ((z.drop 9).take 30) (((us.foldl setU E64).drop 9).take 30) (by simp; omega)
  have hsec : decide ((z.drop 9).take 30 = (E64.drop 9).take 30) = true ∨ decide ((z.drop 9).take 30 = ((us.foldl setU E64).drop 9).take 30) = true := by
    rcases A.secs with h | h
    · left
      have := congrArg (List.drop 9) h
      rw [List.drop_take, List.drop_take] at this
      exact decide_eq_true this
    · right
      have := congrArg (List.drop 9) h
      rw [List.drop_take, List.drop_take] at this
      exact decide_eq_true this
  generalize hD1 : decide ((z.drop 9).take 30 = (E64.drop 9).take 30) = D1 at *
  generalize hD2 : decide ((z.drop 9).take 30 = ((us.foldl setU E64).drop 9).take 30) = D2 at *
  have hpv : planV h 5 us = .nil ∧ planF h 5 us = [] ∨ planV h 5 us = .sl 3 ((planF h 5 us).map eMove) := by
    by_cases hne : us = []
    · exact .inl (by simp [planV, planF, hne])
    · exact .inr (by simp [planV, hne])
  have hE : E64.map AV.str = List.replicate 64 (.str []) := by simp [E64, -List.reduceReplicate]
  have hE64 : E64.length = 64 := by decide
  have hu' : ∀ u ∈ us, 0 ≤ u.at_ ∧ u.at_.toNat < 64 := fun u hm => by have := hu u hm; omega
  have hUl : (us.foldl setU E64).length = 64 := by rw [setU_len]; exact hE64
  have rlen := A.len
  have xss := gx.ss
  clear A hrep hset hset' hxok hmc hkm hmc2 hkm2 hrp hj hyok gx
  generalize hxx : ((planF h 5 us).take c.toNat).foldl (mvT h) (d64, []) = x at *
  obtain ⟨⟨xs, xp⟩, xt⟩ := x
  generalize planF h 5 us = p at *
  generalize planV h 5 us = pv at *
  simp only [eDisk, d64, hE, List.map_nil] at e6
  simp only [eDisk, List.map_nil] at e8 e10 e9 e11 e13
  simp only [List.nil_append, List.length_nil] at e11
  simp only [List.length_nil] at hgg
  simp only at xss e6 e8
  rw [List.map_take, List.map_drop, List.map_take, List.map_drop] at e14 e15
  rw [hE] at e14
  rw [show List.take 30 (List.drop 9 (List.map AV.str z)) = List.drop 9 (List.take 39 (List.map AV.str z)) from by rw [List.drop_take]] at e14 e15
  rw [show List.take 30 (List.drop 9 (List.replicate 64 (AV.str []))) = List.drop 9 (List.take 39 (List.replicate 64 (AV.str []))) from by rw [List.drop_take]] at e14
  simp [-List.reduceReplicate] at e14
  have n0 : ¬ (1048576 : Int) < b0.length := by omega
  have n1 : ¬ (1048576 : Int) < b1.length := by omega
  simp only [List.map_take] at e6
  rcases hpv with ⟨rfl, rfl⟩ | rfl
  · have c0 : c = 0 := by simp at hd; omega
    subst c0
    simp [-List.reduceReplicate] at e3 e6 e8 xss
    rcases e9 with ⟨rfl, e9⟩ | ⟨hr0, e9⟩
    · simp at e10 e11 e12
      rcases hgg with ⟨_, rfl⟩ | rfl
      · refine E_fin Try.f7 _ an7 rfl rfl rfl Try.func7 rfl (by kernel_rfl) ?_
        simp [go_sem, -List.reduceReplicate, l0, l1, n0, n1, e1, e2, e3, e4, e6, e7, e8, e9, e10, e11, e12, e13, e14, z1,  wrap_id (n := h + 1) (by omega), show IntKind.i64.wrap 1 = 1 by decide]
        refine loop_for (fun X => fin CX _ _ X = _) us (fun n (a : List Tx) => a.length = 64) (fun n a => ⟨SS [(5, .sl 2 (us.map eUpdate)), (19, .ptr [19] 0 0), (21, .nil), (23, .int .i64 0), (24, .ref [136] 0 64), (25, .bool D1), (26, .int .i64 n)], HS [([19], ⟨true, 32, 2, [.agg [.sl 1 (z.map .str), .sl 3 []]]⟩), ([136], ⟨false, 9, 1, a.map .str⟩)]⟩)
          (fun r n a => (.exit 0, ⟨SS [(19, .ptr [19] 0 0), (21, .nil), (23, .int .i64 0), (24, .ref [136] 0 64), (25, .bool D1)], HS [([19], ⟨true, 32, 2, [.agg [.sl 1 (z.map .str), .sl 3 []]]⟩), ([136], ⟨false, 9, 1, (r.foldl setU a).map .str⟩)]⟩)) E64 hE64 ?_ ?_ ?_ ?_ ?_
        · simp [go_sem, hE, -List.reduceReplicate]
        · intro R n a u r hn hx hd' hI hR
          have hm : u ∈ us := by rw [← hx hn]; exact List.getElem_mem hn
          have hx := hx hn
          have hat := hu' u hm
          have := hR (setU a u) (by simp [setU, hI]) rfl
          simp [go_sem, setU] at this
          simp [go_sem, hn, hx, eUpdate, hI, hat.1, hat.2, List.map_set, wrap_id (n := (n : Int) + 1) (by omega)]
          exact this
        · intro a hI; simp [go_sem]
        · intro _; simp
        · rcases hsec with hs | hs
          · rw [hs] at e14
            cases D2 <;> simp [go_sem, e14, e15, z1, hUl, hs]
          · rw [hs] at e15
            cases D1 <;> simp [go_sem, e14, e15, z1, hUl, hs]
      · refine E_fin Try.f7 _ an7 rfl rfl rfl Try.func7 rfl (by kernel_rfl) ?_
        simp [go_sem, -List.reduceReplicate, l0, l1, n0, n1, e1, e2, e3, e4, e6, e7, e8, e9, e10, e11, e12, e13, e14, z1,  wrap_id (n := h + 1) (by omega), show IntKind.i64.wrap 1 = 1 by decide]
        refine loop_for (fun X => fin CX _ _ X = _) us (fun n (a : List Tx) => a.length = 64) (fun n a => ⟨SS [(5, .sl 2 (us.map eUpdate)), (19, .ptr [19] 0 0), (21, .sl 2 []), (23, .int .i64 0), (24, .ref [136] 0 64), (25, .bool D1), (26, .int .i64 n)], HS [([19], ⟨true, 32, 2, [.agg [.sl 1 (z.map .str), .sl 3 []]]⟩), ([136], ⟨false, 9, 1, a.map .str⟩)]⟩)
          (fun r n a => (.exit 0, ⟨SS [(19, .ptr [19] 0 0), (21, .sl 2 []), (23, .int .i64 0), (24, .ref [136] 0 64), (25, .bool D1)], HS [([19], ⟨true, 32, 2, [.agg [.sl 1 (z.map .str), .sl 3 []]]⟩), ([136], ⟨false, 9, 1, (r.foldl setU a).map .str⟩)]⟩)) E64 hE64 ?_ ?_ ?_ ?_ ?_
        · simp [go_sem, hE, -List.reduceReplicate]
        · intro R n a u r hn hx hd' hI hR
          have hm : u ∈ us := by rw [← hx hn]; exact List.getElem_mem hn
          have hx := hx hn
          have hat := hu' u hm
          have := hR (setU a u) (by simp [setU, hI]) rfl
          simp [go_sem, setU] at this
          simp [go_sem, hn, hx, eUpdate, hI, hat.1, hat.2, List.map_set, wrap_id (n := (n : Int) + 1) (by omega)]
          exact this
        · intro a hI; simp [go_sem]
        · intro _; simp
        · rcases hsec with hs | hs
          · rw [hs] at e14
            cases D2 <;> simp [go_sem, e14, e15, z1, hUl, hs]
          · rw [hs] at e15
            cases D1 <;> simp [go_sem, e14, e15, z1, hUl, hs]
    · rcases hgg with ⟨_, rfl⟩ | rfl
      · refine E_fin Try.f7 _ an7 rfl rfl rfl Try.func7 rfl (by kernel_rfl) ?_
        simp [go_sem, -List.reduceReplicate, l0, l1, n0, n1, e1, e2, e3, e4, e6, e7, e8, e9, e10, e11, e12, e13, e14, z1,  wrap_id (n := h + 1) (by omega), show IntKind.i64.wrap 1 = 1 by decide]
        refine loop_for (fun X => fin CX _ _ X = _) us (fun n (a : List Tx) => a.length = 64) (fun n a => ⟨SS [(5, .sl 2 (us.map eUpdate)), (19, .ptr [19] 0 0), (21, .nil), (23, .int .i64 0), (24, .ref [136] 0 64), (25, .bool D1), (26, .int .i64 n)], HS [([19], ⟨true, 32, 2, [.agg [.sl 1 (z.map .str), .sl 3 []]]⟩), ([136], ⟨false, 9, 1, a.map .str⟩)]⟩)
          (fun r n a => (.exit 0, ⟨SS [(19, .ptr [19] 0 0), (21, .nil), (23, .int .i64 0), (24, .ref [136] 0 64), (25, .bool D1)], HS [([19], ⟨true, 32, 2, [.agg [.sl 1 (z.map .str), .sl 3 []]]⟩), ([136], ⟨false, 9, 1, (r.foldl setU a).map .str⟩)]⟩)) E64 hE64 ?_ ?_ ?_ ?_ ?_
        · simp [go_sem, hE, -List.reduceReplicate]
        · intro R n a u r hn hx hd' hI hR
          have hm : u ∈ us := by rw [← hx hn]; exact List.getElem_mem hn
          have hx := hx hn
          have hat := hu' u hm
          have := hR (setU a u) (by simp [setU, hI]) rfl
          simp [go_sem, setU] at this
          simp [go_sem, hn, hx, eUpdate, hI, hat.1, hat.2, List.map_set, wrap_id (n := (n : Int) + 1) (by omega)]
          exact this
        · intro a hI; simp [go_sem]
        · intro _; simp
        · rcases hsec with hs | hs
          · rw [hs] at e14
            cases D2 <;> simp [go_sem, e14, e15, z1, hUl, hs]
          · rw [hs] at e15
            cases D1 <;> simp [go_sem, e14, e15, z1, hUl, hs]
      · refine E_fin Try.f7 _ an7 rfl rfl rfl Try.func7 rfl (by kernel_rfl) ?_
        simp [go_sem, -List.reduceReplicate, l0, l1, n0, n1, e1, e2, e3, e4, e6, e7, e8, e9, e10, e11, e12, e13, e14, z1,  wrap_id (n := h + 1) (by omega), show IntKind.i64.wrap 1 = 1 by decide]
        refine loop_for (fun X => fin CX _ _ X = _) us (fun n (a : List Tx) => a.length = 64) (fun n a => ⟨SS [(5, .sl 2 (us.map eUpdate)), (19, .ptr [19] 0 0), (21, .sl 2 []), (23, .int .i64 0), (24, .ref [136] 0 64), (25, .bool D1), (26, .int .i64 n)], HS [([19], ⟨true, 32, 2, [.agg [.sl 1 (z.map .str), .sl 3 []]]⟩), ([136], ⟨false, 9, 1, a.map .str⟩)]⟩)
          (fun r n a => (.exit 0, ⟨SS [(19, .ptr [19] 0 0), (21, .sl 2 []), (23, .int .i64 0), (24, .ref [136] 0 64), (25, .bool D1)], HS [([19], ⟨true, 32, 2, [.agg [.sl 1 (z.map .str), .sl 3 []]]⟩), ([136], ⟨false, 9, 1, (r.foldl setU a).map .str⟩)]⟩)) E64 hE64 ?_ ?_ ?_ ?_ ?_
        · simp [go_sem, hE, -List.reduceReplicate]
        · intro R n a u r hn hx hd' hI hR
          have hm : u ∈ us := by rw [← hx hn]; exact List.getElem_mem hn
          have hx := hx hn
          have hat := hu' u hm
          have := hR (setU a u) (by simp [setU, hI]) rfl
          simp [go_sem, setU] at this
          simp [go_sem, hn, hx, eUpdate, hI, hat.1, hat.2, List.map_set, wrap_id (n := (n : Int) + 1) (by omega)]
          exact this
        · intro a hI; simp [go_sem]
        · intro _; simp
        · rcases hsec with hs | hs
          · rw [hs] at e14
            cases D2 <;> simp [go_sem, e14, e15, z1, hUl, hs]
          · rw [hs] at e15
            cases D1 <;> simp [go_sem, e14, e15, z1, hUl, hs]
  · have hc1 : c ≤ (p.length : Int) := by omega
    have hc2 : c.toNat ≤ p.length := by omega
    rcases e9 with ⟨rfl, e9⟩ | ⟨hr0, e9⟩
    · simp at e10 e11 e12
      rcases hgg with ⟨_, rfl⟩ | rfl
      · refine E_fin Try.f7 _ an7 rfl rfl rfl Try.func7 rfl (by kernel_rfl) ?_
        simp [go_sem, -List.reduceReplicate, l0, l1, n0, n1, e1, e2, e3, e4, e6, e7, e8, e9, e10, e11, e12, e13, e14, z1, hc, hc1, hc2, wrap_id (n := h + 1) (by omega), wrap_id (n := (p.length : Int) + 1) (by omega)]
        refine loop_for (fun X => fin CX _ _ X = _) us (fun n (a : List Tx) => a.length = 64) (fun n a => ⟨SS [(5, .sl 2 (us.map eUpdate)), (19, .ptr [19] 0 0), (21, .nil), (23, .int .i64 0), (24, .ref [136] 0 64), (25, .bool D1), (26, .int .i64 n)], HS [([19], ⟨true, 32, 2, [.agg [.sl 1 (z.map .str), .sl 3 []]]⟩), ([136], ⟨false, 9, 1, a.map .str⟩)]⟩)
          (fun r n a => (.exit 0, ⟨SS [(19, .ptr [19] 0 0), (21, .nil), (23, .int .i64 0), (24, .ref [136] 0 64), (25, .bool D1)], HS [([19], ⟨true, 32, 2, [.agg [.sl 1 (z.map .str), .sl 3 []]]⟩), ([136], ⟨false, 9, 1, (r.foldl setU a).map .str⟩)]⟩)) E64 hE64 ?_ ?_ ?_ ?_ ?_
        · simp [go_sem, hE, -List.reduceReplicate]
        · intro R n a u r hn hx hd' hI hR
          have hm : u ∈ us := by rw [← hx hn]; exact List.getElem_mem hn
          have hx := hx hn
          have hat := hu' u hm
          have := hR (setU a u) (by simp [setU, hI]) rfl
          simp [go_sem, setU] at this
          simp [go_sem, hn, hx, eUpdate, hI, hat.1, hat.2, List.map_set, wrap_id (n := (n : Int) + 1) (by omega)]
          exact this
        · intro a hI; simp [go_sem]
        · intro _; simp
        · rcases hsec with hs | hs
          · rw [hs] at e14
            cases D2 <;> simp [go_sem, e14, e15, z1, hUl, hs]
          · rw [hs] at e15
            cases D1 <;> simp [go_sem, e14, e15, z1, hUl, hs]
      · refine E_fin Try.f7 _ an7 rfl rfl rfl Try.func7 rfl (by kernel_rfl) ?_
        simp [go_sem, -List.reduceReplicate, l0, l1, n0, n1, e1, e2, e3, e4, e6, e7, e8, e9, e10, e11, e12, e13, e14, z1, hc, hc1, hc2, wrap_id (n := h + 1) (by omega), wrap_id (n := (p.length : Int) + 1) (by omega)]
        refine loop_for (fun X => fin CX _ _ X = _) us (fun n (a : List Tx) => a.length = 64) (fun n a => ⟨SS [(5, .sl 2 (us.map eUpdate)), (19, .ptr [19] 0 0), (21, .sl 2 []), (23, .int .i64 0), (24, .ref [136] 0 64), (25, .bool D1), (26, .int .i64 n)], HS [([19], ⟨true, 32, 2, [.agg [.sl 1 (z.map .str), .sl 3 []]]⟩), ([136], ⟨false, 9, 1, a.map .str⟩)]⟩)
          (fun r n a => (.exit 0, ⟨SS [(19, .ptr [19] 0 0), (21, .sl 2 []), (23, .int .i64 0), (24, .ref [136] 0 64), (25, .bool D1)], HS [([19], ⟨true, 32, 2, [.agg [.sl 1 (z.map .str), .sl 3 []]]⟩), ([136], ⟨false, 9, 1, (r.foldl setU a).map .str⟩)]⟩)) E64 hE64 ?_ ?_ ?_ ?_ ?_
        · simp [go_sem, hE, -List.reduceReplicate]
        · intro R n a u r hn hx hd' hI hR
          have hm : u ∈ us := by rw [← hx hn]; exact List.getElem_mem hn
          have hx := hx hn
          have hat := hu' u hm
          have := hR (setU a u) (by simp [setU, hI]) rfl
          simp [go_sem, setU] at this
          simp [go_sem, hn, hx, eUpdate, hI, hat.1, hat.2, List.map_set, wrap_id (n := (n : Int) + 1) (by omega)]
          exact this
        · intro a hI; simp [go_sem]
        · intro _; simp
        · rcases hsec with hs | hs
          · rw [hs] at e14
            cases D2 <;> simp [go_sem, e14, e15, z1, hUl, hs]
          · rw [hs] at e15
            cases D1 <;> simp [go_sem, e14, e15, z1, hUl, hs]
    · rcases hgg with ⟨_, rfl⟩ | rfl
      · refine E_fin Try.f7 _ an7 rfl rfl rfl Try.func7 rfl (by kernel_rfl) ?_
        simp [go_sem, -List.reduceReplicate, l0, l1, n0, n1, e1, e2, e3, e4, e6, e7, e8, e9, e10, e11, e12, e13, e14, z1, hc, hc1, hc2, wrap_id (n := h + 1) (by omega), wrap_id (n := (p.length : Int) + 1) (by omega)]
        refine loop_for (fun X => fin CX _ _ X = _) us (fun n (a : List Tx) => a.length = 64) (fun n a => ⟨SS [(5, .sl 2 (us.map eUpdate)), (19, .ptr [19] 0 0), (21, .nil), (23, .int .i64 0), (24, .ref [136] 0 64), (25, .bool D1), (26, .int .i64 n)], HS [([19], ⟨true, 32, 2, [.agg [.sl 1 (z.map .str), .sl 3 []]]⟩), ([136], ⟨false, 9, 1, a.map .str⟩)]⟩)
          (fun r n a => (.exit 0, ⟨SS [(19, .ptr [19] 0 0), (21, .nil), (23, .int .i64 0), (24, .ref [136] 0 64), (25, .bool D1)], HS [([19], ⟨true, 32, 2, [.agg [.sl 1 (z.map .str), .sl 3 []]]⟩), ([136], ⟨false, 9, 1, (r.foldl setU a).map .str⟩)]⟩)) E64 hE64 ?_ ?_ ?_ ?_ ?_
        · simp [go_sem, hE, -List.reduceReplicate]
        · intro R n a u r hn hx hd' hI hR
          have hm : u ∈ us := by rw [← hx hn]; exact List.getElem_mem hn
          have hx := hx hn
          have hat := hu' u hm
          have := hR (setU a u) (by simp [setU, hI]) rfl
          simp [go_sem, setU] at this
          simp [go_sem, hn, hx, eUpdate, hI, hat.1, hat.2, List.map_set, wrap_id (n := (n : Int) + 1) (by omega)]
          exact this
        · intro a hI; simp [go_sem]
        · intro _; simp
        · rcases hsec with hs | hs
          · rw [hs] at e14
            cases D2 <;> simp [go_sem, e14, e15, z1, hUl, hs]
          · rw [hs] at e15
            cases D1 <;> simp [go_sem, e14, e15, z1, hUl, hs]
      · refine E_fin Try.f7 _ an7 rfl rfl rfl Try.func7 rfl (by kernel_rfl) ?_
        simp [go_sem, -List.reduceReplicate, l0, l1, n0, n1, e1, e2, e3, e4, e6, e7, e8, e9, e10, e11, e12, e13, e14, z1, hc, hc1, hc2, wrap_id (n := h + 1) (by omega), wrap_id (n := (p.length : Int) + 1) (by omega)]
        refine loop_for (fun X => fin CX _ _ X = _) us (fun n (a : List Tx) => a.length = 64) (fun n a => ⟨SS [(5, .sl 2 (us.map eUpdate)), (19, .ptr [19] 0 0), (21, .sl 2 []), (23, .int .i64 0), (24, .ref [136] 0 64), (25, .bool D1), (26, .int .i64 n)], HS [([19], ⟨true, 32, 2, [.agg [.sl 1 (z.map .str), .sl 3 []]]⟩), ([136], ⟨false, 9, 1, a.map .str⟩)]⟩)
          (fun r n a => (.exit 0, ⟨SS [(19, .ptr [19] 0 0), (21, .sl 2 []), (23, .int .i64 0), (24, .ref [136] 0 64), (25, .bool D1)], HS [([19], ⟨true, 32, 2, [.agg [.sl 1 (z.map .str), .sl 3 []]]⟩), ([136], ⟨false, 9, 1, (r.foldl setU a).map .str⟩)]⟩)) E64 hE64 ?_ ?_ ?_ ?_ ?_
        · simp [go_sem, hE, -List.reduceReplicate]
        · intro R n a u r hn hx hd' hI hR
          have hm : u ∈ us := by rw [← hx hn]; exact List.getElem_mem hn
          have hx := hx hn
          have hat := hu' u hm
          have := hR (setU a u) (by simp [setU, hI]) rfl
          simp [go_sem, setU] at this
          simp [go_sem, hn, hx, eUpdate, hI, hat.1, hat.2, List.map_set, wrap_id (n := (n : Int) + 1) (by omega)]
          exact this
        · intro a hI; simp [go_sem]
        · intro _; simp
        · rcases hsec with hs | hs
          · rw [hs] at e14
            cases D2 <;> simp [go_sem, e14, e15, z1, hUl, hs]
          · rw [hs] at e15
            cases D1 <;> simp [go_sem, e14, e15, z1, hUl, hs]
end Go.Proofs.Ytccoeoppjcegnaa

namespace Go.Proofs.Ytccoeoppjcegnaa
open Go
set_option maxRecDepth 100000
theorem told_u8 : ∀ bs, Typed Try.prog 5 bs → ∃ x : Int, mkVal (tagg Try.prog 5) bs = .int .u8 x ∧ (0 ≤ x ∧ x < 256) := by
  intro bs h
  obtain ⟨x, rfl, w⟩ := typed_int Try.underlying5 h
  refine ⟨x, by rw [show tagg Try.prog 5 = false by kernel_rfl]; rfl, ?_⟩
  rw [show IntKind.u8.min = 0 from rfl, show IntKind.u8.max = 255 from rfl] at w
  omega
theorem told_Bytes : ∀ bs, Typed Try.prog 22 bs → ∃ x : List Int, mkVal (tagg Try.prog 22) bs = .sl 1 (x.map (.int .u8)) ∧ x.length ≤ top ∧ ∀ b ∈ x, 0 ≤ b ∧ b < 256 := by
  intro bs h
  obtain ⟨x, e, w, q⟩ := typed_list Try.underlying22 told_u8 h
  rw [show Try.prog.cellsOf 5 = 1 by kernel_rfl] at e
  cases e
  exact ⟨x, by rw [show tagg Try.prog 22 = false by kernel_rfl]; rfl, w, q⟩
end Go.Proofs.Ytccoeoppjcegnaa
