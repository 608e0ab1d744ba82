/- A reading of the loaded code over plain data, its soundness, and what functions answer by it (part 3; joined by program). No condition. -/
import Derived.Test.YtndgpinhbffleaaGreatKRd2
import Derived.Tactics
set_option linter.all false
namespace Go.Proofs.YtndgpinhbffleaaGreat
open Go Go.RowKit

theorem exists_least {p : Nat → Prop} (h : ∃ n, p n) : ∃ n, p n ∧ ∀ m, p m → n ≤ m := by
  obtain ⟨n, hn⟩ := h
  induction n using Nat.strongRecOn with
  | _ n ih =>
    by_cases hx : ∃ m, m < n ∧ p m
    · obtain ⟨m, hm, hp⟩ := hx; exact ih m hm hp
    · exact ⟨n, hn, fun m hm => by
        by_cases hlt : m < n
        · exact absurd ⟨m, hlt, hm⟩ hx
        · omega⟩
section
variable {P : Program} {E : Oracle} {A : FuncId → Ann} {an : Ann} {nt : Nat} {w0 : World} {ι0 : Map}
theorem Mid.dead {w : World} {σ : St} {ι : Map} {a : Act} (M : Mid an.np nt w0 ι0 w σ ι a) (d : Option Nat) (hd : ∀ s, d = some s → s < nt) : Mid an.np nt w0 ι0 w ⟨putS σ.slot d (.tuple []), σ.heap⟩ ι (a.put d undef) := by
  have D : Done an.np σ.heap w ι { val := .tuple [] } undef w ι :=
    ⟨Ext.refl _ _, .tuple rfl (by intro i hi; cases hi), (by intro _ _ h; cases h), (fun _ _ _ => ⟨rfl, rfl⟩), (fun _ _ _ => rfl), (fun _ _ _ h => .inl h), (fun _ _ h => .inl h), M.rel.inv.inj, M.rel.inv.sep, M.rel.inv.live, (by intro _ h; cases h), (by intro _ _ h; cases h), .nil, (by intro _ h; cases h), fun _ _ => ⟨rfl, rfl⟩⟩
  have := M.app D (fun _ h => h) d hd
  simpa [St.app, upds] using this
theorem bool_at {w : World} {σ : St} {ι : Map} {a : Act} (M : Mid an.np nt w0 ι0 w σ ι a) {d : Nat} {b : Bool} (h : σ.slot d = .bool b) : a.tmps[d]? = some (.bool b) := by
  have := M.rel.slots d
  rw [h] at this
  generalize hx : a.tmps.getD d undef = x at this
  cases this
  by_cases hd : d < a.tmps.size
  · simp [hd] at hx ⊢; exact hx
  · simp [hd, undef] at hx
def dstIn (nt : Nat) (o : Oper) : Prop := ∀ s, o.dst = some s → s < nt
theorem doOp_sound (hO : OpsOK P E A an) {o : Oper} {σ σ' : St} (e : doOp P E A an o σ = some σ') {w : World} {ι : Map} {a : Act} (M : Mid an.np nt w0 ι0 w σ ι a) (hd : dstIn nt o)
    (next : Act → World → Prop) (Q : Exit → Act → World → Prop) (hn : ∀ w' ι' a', Mid an.np nt w0 ι0 w' σ' ι' a' → next a' w') : o.wp P a w next Q := by
  unfold doOp at e
  split at e
  · rename_i eff he
    injection e with e; subst e
    exact hO o σ.ev σ.heap eff a w ι he M.rel.inv M.ev (fun id k _ hp h => (M.rel.dom id k h).resolve_left (by simp [hp])) next Q fun v w' ι' D => hn _ _ _ (M.app D (fun _ h => h) o.dst hd)
  · cases e
theorem wanted_of {all : List Oper} {o : Oper} {σ : St} {w : World} {ι : Map} {a : Act} (M : Mid an.np nt w0 ι0 w σ ι a) {k : Option St} {σ' : St} (e : guarded all o σ k = some σ') :
    (Region.wanted o (yielded all.toArray a.tmps) = true ∧ k = some σ') ∨ (Region.wanted o (yielded all.toArray a.tmps) = false ∧ σ' = ⟨putS σ.slot o.dst (.tuple []), σ.heap⟩) := by
  unfold guarded at e
  unfold Region.wanted
  cases hg : o.guard with
  | none => simp only [hg] at e; exact .inl ⟨rfl, e⟩
  | some p =>
    obtain ⟨j, want⟩ := p
    simp only [hg] at e
    cases hs : gslot all j with
    | none => simp [hs] at e
    | some d =>
      simp only [hs] at e
      cases hb : σ.slot d with
      | bool b =>
        simp only [hb] at e
        have hy : yielded all.toArray a.tmps j = some b := by
          unfold yielded
          have : ((all.toArray[j]?).bind (·.dst)) = some d := by simpa [gslot] using hs
          rw [this]
          simp [bool_at M hb]
        simp only [hy]
        by_cases hw : b = want
        · rw [if_pos hw] at e; exact .inl ⟨by simp [hw], e⟩
        · rw [if_neg hw] at e; injection e with e; exact .inr ⟨by simp [hw], e.symm⟩
      | tuple l =>
        simp only [hb] at e
        have hy : yielded all.toArray a.tmps j = none := by
          unfold yielded
          have : ((all.toArray[j]?).bind (·.dst)) = some d := by simpa [gslot] using hs
          rw [this]
          simp only [Option.bind_some]
          have hr := M.rel.slots d
          rw [hb] at hr
          generalize hx : a.tmps.getD d undef = x at hr
          cases hr
          by_cases hd : d < a.tmps.size
          · simp [hd] at hx
            simp [hd, hx]
          · simp [hd]
        simp only [hy]
        injection e with e
        exact .inr ⟨by simp, e.symm⟩
      | _ => simp [hb] at e
theorem rops_sound (hO : OpsOK P E A an) (all : List Oper) (Q : Exit → Act → World → Prop) (os : List Oper) : ∀ (σ σ' : St) (w : World) (ι : Map) (a : Act), rops P E A an all os σ = some σ' → Mid an.np nt w0 ι0 w σ ι a → (∀ o ∈ os, dstIn nt o) →
    (∀ w ι a, Mid an.np nt w0 ι0 w σ' ι a → Q .normal a w) → wpList P all.toArray Q os a w := by
  induction os with
  | nil => intro σ σ' w ι a e M _ hQ; unfold rops at e; injection e with e; subst e; exact hQ _ _ _ M
  | cons o os ih =>
    intro σ σ' w ι a e M hd hQ
    unfold rops at e
    cases hg : guarded all o σ (doOp P E A an o σ) with
    | none => simp [hg] at e
    | some τ =>
      simp only [hg] at e
      unfold wpList
      rcases wanted_of M hg with ⟨h1, h2⟩ | ⟨h1, h2⟩
      · rw [if_pos h1]
        exact .inl (doOp_sound hO h2 M (hd o (by simp)) _ _ fun w' ι' a' M' => ih τ σ' w' ι' a' e M' (fun x hx => hd x (by simp [hx])) hQ)
      · rw [h1, if_neg (by simp)]
        subst h2
        exact ih _ σ' w ι _ e (M.dead o.dst (hd o (by simp))) (fun x hx => hd x (by simp [hx])) hQ

/-- Regions that draw their order: told apart. -/
def DrawsOK (P : Program) (E : Oracle) (A : FuncId → Ann) (an : Ann) : Code → Prop
  | .region id os true => ∀ (nt : Nat) (w0 : World) (ι0 : Map) (Q : Exit → Act → World → Prop) (σ σ' : St) (w : World) (ι : Map) (a : Act), ropsH P E A an os.toList id 0 os.toList σ = some σ' → Mid an.np nt w0 ι0 w σ ι a → (∀ o ∈ os.toList, dstIn nt o) →
    (∀ w ι a, Mid an.np nt w0 ι0 w σ' ι a → Q .normal a w) → (Code.region id os true).wp P Q a w
  | .seq a b => DrawsOK P E A an a ∧ DrawsOK P E A an b
  | .cond _ a b => DrawsOK P E A an a ∧ DrawsOK P E A an b
  | .block _ c => DrawsOK P E A an c
  | .loop c => DrawsOK P E A an c
  | _ => True

theorem exec_sound (hO : OpsOK P E A an) (c : Code) : ∀ (k : Nat) (σ : St) (e : Ex) (σ' : St), exec P E A an c k σ = some (e, σ') → slotsIn nt c = true → DrawsOK P E A an c → ∀ (w : World) (ι : Map) (a : Act), Mid an.np nt w0 ι0 w σ ι a →
    ∀ Q : Exit → Act → World → Prop, Comes1 an.np nt w0 ι0 Q e σ' → c.wp P Q a w := by
  induction c with
  | skip => intro k σ e σ' h _ _ w ι a M Q hQ; simp only [exec] at h; injection h with h; injection h with h1 h2; subst h1; subst h2; exact wp_skip (hQ w ι a M)
  | region id os draw =>
    intro k σ e σ' h hs hD w ι a M Q hQ
    simp only [exec] at h
    cases hr : region P E A an os.toList id draw σ with
    | none => simp [hr] at h
    | some τ =>
      simp only [hr] at h; injection h with h; injection h with h1 h2; subst h1; subst h2
      have hd : ∀ o ∈ os.toList, dstIn nt o := by
        intro o ho s hs'
        simp only [slotsIn, List.all_eq_true] at hs
        have := hs o ho
        rw [hs'] at this; simpa using this
      unfold region at hr
      cases draw with
      | false =>
        simp only [Bool.false_eq_true, if_false] at hr
        have := rops_sound hO os.toList Q os.toList _ τ w ι a hr (M.restr an.vars) hd (fun w ι a M => hQ w ι a M)
        exact wp_region_list (by simpa using this)
      | true =>
        simp only [if_true] at hr
        exact hD nt w0 ι0 Q _ τ w ι a hr (M.restr an.vars) hd (fun w ι a M => hQ w ι a M)
  | seq x y ihx ihy =>
    intro k σ e σ' h hs hD w ι a M Q hQ
    simp only [slotsIn, Bool.and_eq_true] at hs
    simp only [exec] at h
    cases hx : exec P E A an x k σ with
    | none => simp [hx] at h
    | some r =>
      obtain ⟨e1, σ1⟩ := r
      refine wp_seq (ihx k σ e1 σ1 hx hs.1 hD.1 w ι a M _ ?_)
      cases e1 with
      | normal => simp only [hx] at h; intro w1 ι1 a1 M1; exact ihy k σ1 e σ' h hs.2 hD.2 w1 ι1 a1 M1 Q hQ
      | exit i => simp only [hx] at h; injection h with h; injection h with h1 h2; subst h1; subst h2; intro w1 ι1 a1 M1; exact hQ w1 ι1 a1 M1
      | ret => simp only [hx] at h; injection h with h; injection h with h1 h2; subst h1; subst h2; intro w1 ι1 a1 M1; exact hQ w1 ι1 a1 M1
  | cond c x y ihx ihy =>
    intro k σ e σ' h hs hD w ι a M Q hQ
    simp only [slotsIn, Bool.and_eq_true] at hs
    simp only [exec] at h
    have hev := M.ev c
    cases hc : σ.ev c with
    | bool t =>
      simp only [hc] at h
      rw [hc] at hev
      generalize hx : a.eval c = x at hev
      cases hev
      cases t with
      | true => exact wp_cond_true hx (ihx k σ e σ' (by simpa using h) hs.1 hD.1 w ι a M Q hQ)
      | false => exact wp_cond_false hx (ihy k σ e σ' (by simpa using h) hs.2 hD.2 w ι a M Q hQ)
    | _ => simp [hc] at h
  | block id c ih =>
    intro k σ e σ' h hs hD w ι a M Q hQ
    simp only [exec] at h
    cases hx : exec P E A an c id σ with
    | none => simp [hx] at h
    | some r =>
      obtain ⟨e1, σ1⟩ := r
      refine wp_block (ih id σ e1 σ1 hx hs hD w ι a M _ ?_)
      cases e1 with
      | normal => simp only [hx] at h; injection h with h; injection h with h1 h2; subst h1; subst h2; intro w1 ι1 a1 M1; exact hQ w1 ι1 a1 M1
      | exit i =>
        simp only [hx] at h
        intro w1 ι1 a1 M1
        by_cases hi : i = id
        · rw [if_pos hi] at h; injection h with h; injection h with h1 h2; subst h1; subst h2
          simp only [Exit.inBlock, hi, if_true]; exact hQ w1 ι1 a1 M1
        · rw [if_neg hi] at h; injection h with h; injection h with h1 h2; subst h1; subst h2
          simp only [Exit.inBlock, hi, if_false]; exact hQ w1 ι1 a1 M1
      | ret => simp only [hx] at h; injection h with h; injection h with h1 h2; subst h1; subst h2; intro w1 ι1 a1 M1; exact hQ w1 ι1 a1 M1
  | loop c ih =>
    intro k σ e σ' h hs hD w ι a M Q hQ
    simp only [exec] at h
    obtain ⟨n, hn⟩ := loopE_of h
    let I : Nat → Act → World → Prop := fun n a w => ∃ τ ι, Mid an.np nt w0 ι0 w τ ι a ∧ loopN (exec P E A an c k) (keepSt an k) n τ = some (e, σ')
    have hI0 : ∃ n, I n a w := by
      obtain ⟨ι', M'⟩ := M.cut (lookupD an.keep k ([], [])).1 (lookupD an.keep k ([], [])).2
      exact ⟨n, _, ι', M', hn⟩
    classical
    let μ : Act → World → Nat := fun a w => if h : ∃ n, I n a w then Classical.choose (exists_least h) else 0
    refine wp_loop (fun a w => ∃ n, I n a w) μ hI0 ?_
    intro a w hI
    have hμ : I (μ a w) a w := by simp only [μ, dif_pos hI]; exact (Classical.choose_spec (exists_least hI)).1
    obtain ⟨τ, ι, M, hl⟩ := hμ
    generalize hm : μ a w = m at hl
    cases m with
    | zero => simp [loopN] at hl
    | succ m =>
      simp only [loopN] at hl
      cases hx : exec P E A an c k τ with
      | none => simp [hx] at hl
      | some r =>
        obtain ⟨e1, σ1⟩ := r
        refine ih k τ e1 σ1 hx hs hD w ι a M _ ?_
        cases e1 with
        | normal =>
          simp only [hx] at hl
          intro w1 ι1 a1 M1
          obtain ⟨ι', M'⟩ := M1.cut (lookupD an.keep k ([], [])).1 (lookupD an.keep k ([], [])).2
          have hI1 : I m a1 w1 := ⟨_, ι', M', hl⟩
          refine ⟨⟨m, hI1⟩, ?_⟩
          have : μ a1 w1 ≤ m := by simp only [μ, dif_pos (⟨m, hI1⟩ : ∃ n, I n a1 w1)]; exact (Classical.choose_spec (exists_least (⟨m, hI1⟩ : ∃ n, I n a1 w1))).2 m hI1
          omega
        | exit i => simp only [hx] at hl; injection hl with hl; injection hl with h1 h2; subst h1; subst h2; intro w1 ι1 a1 M1; exact hQ w1 ι1 a1 M1
        | ret => simp only [hx] at hl; injection hl with hl; injection hl with h1 h2; subst h1; subst h2; intro w1 ι1 a1 M1; exact hQ w1 ι1 a1 M1
  | exit i =>
    intro k σ e σ' h hs hD w ι a M Q hQ
    simp only [exec] at h; injection h with h; injection h with h1 h2; subst h1
    refine wp_exit ?_
    unfold outSt at h2
    split at h2
    · obtain ⟨ι', M'⟩ := M.cut _ _
      rw [h2] at M'; exact hQ w ι' a M'
    · subst h2; exact hQ w ι a M
  | ret =>
    intro k σ e σ' h hs hD w ι a M Q hQ
    simp only [exec] at h; injection h with h; injection h with h1 h2; subst h1
    refine wp_ret ?_
    unfold outSt at h2
    split at h2
    · obtain ⟨ι', M'⟩ := M.cut _ _
      rw [h2] at M'; exact hQ w ι' a M'
    · subst h2; exact hQ w ι a M
  | _ => intro k σ e σ' h; simp [exec] at h
end
end Go.Proofs.YtndgpinhbffleaaGreat

