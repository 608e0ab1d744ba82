/- A reading of the loaded code over plain data, its soundness, and what functions answer by it (part 7; joined by program). No condition. -/
import Derived.Test.YtndgpinhbffleaaGreatKRd6
import Derived.Orders
set_option linter.all false
namespace Go.Proofs.YtndgpinhbffleaaGreat
open Go Go.RowKit

mutual
theorem kill_kill (K H : Id → Bool) (v : AV) : (v.kill K).kill H = v.kill (fun x => K x || H x) := by
  cases v with
  | agg cs => simp only [AV.kill, killL_killL K H cs]
  | tuple cs => simp only [AV.kill, killL_killL K H cs]
  | fn f cs => simp only [AV.kill, killL_killL K H cs]
  | iface t v => simp only [AV.kill, kill_kill K H v]
  | ref id off len => cases hk : K id <;> cases hh : H id <;> simp [AV.kill, hk, hh]
  | ptr id idx off => cases hk : K id <;> cases hh : H id <;> simp [AV.kill, hk, hh]
  | _ => simp only [AV.kill]
  termination_by SizeOf.sizeOf v
theorem killL_killL (K H : Id → Bool) (l : List AV) : AV.killL H (AV.killL K l) = AV.killL (fun x => K x || H x) l := by
  cases l with
  | nil => rfl
  | cons c cs => simp only [AV.killL, kill_kill K H c, killL_killL K H cs]
  termination_by SizeOf.sizeOf l
end
theorem killB_killB (K H : Id → Bool) (b : Blk) : (b.kill K).kill H = b.kill (fun x => K x || H x) := by
  unfold Blk.kill
  cases b.isVar <;> simp [killL_killL]
theorem or_sub {K H : List Id} (h : ∀ x ∈ K, x ∈ H) : (fun x => inL K x || inL H x) = inL H := by
  funext x
  simp only [inL]
  by_cases hx : x ∈ K
  · simp [hx, h x hx]
  · simp [hx]
theorem or_sub' {K H : List Id} (h : ∀ x ∈ K, x ∈ H) : (fun x => inL H x || inL K x) = inL H := by
  funext x
  simp only [inL]
  by_cases hx : x ∈ K
  · simp [hx, h x hx]
  · simp [hx]
theorem or_comm' (K H : List Id) : (fun x => inL K x || inL H x) = (fun x => inL H x || inL K x) := by funext x; exact Bool.or_comm _ _
theorem inL_nil' : inL [] = fun _ => false := by funext x; simp [inL]
theorem app_eq (σ : St) (e : Eff) (d : Option Nat) : σ.app e d = ⟨putS (killS (inL e.kills) σ.slot) d e.val, upds (killH (inL e.kills) σ.heap) e.ups⟩ := by
  unfold St.app
  cases hk : e.kills with
  | nil =>
    simp only [inL_nil']
    have h1 : killS (fun _ => false) σ.slot = σ.slot := by funext x; simp [killS, kill_nil']
    have h2 : killH (fun _ => false) σ.heap = σ.heap := by funext x; simp [killH]; cases σ.heap x <;> simp [killB_nil]
    rw [h1, h2]
  | cons k ks => rfl
section
variable {P : Program} {E : Oracle} {A : FuncId → Ann} {an : Ann}
theorem aop_congr {o : Oper} {ρ ρ' : Operand → AV} {g : Heap} (h : ∀ x ∈ o.op.operands.toList, ρ x = ρ' x) : aop P E A an o ρ g = aop P E A an o ρ' g := by
  have getd : ∀ {avs : Array Operand} {n : Nat}, (∀ x ∈ avs.toList, ρ x = ρ' x) → n < avs.size → ρ (avs.getD n default) = ρ' (avs.getD n default) := by
    intro avs n h hn
    have : avs.getD n default = avs[n] := by simp [hn]
    rw [this]
    exact h _ (by simp)
  cases ho : o.op with
  | call c =>
    obtain ⟨cal, avs, ats⟩ := c
    rw [ho] at h
    cases cal with
    | builtin b =>
      have h' : ∀ x ∈ avs.toList, ρ x = ρ' x := fun x hx => h x (by simpa [Op.operands, Call.operands] using hx)
      have hm : avs.toList.map ρ = avs.toList.map ρ' := List.map_congr_left h'
      cases b with
      | len => simp only [aop, ho]; by_cases hc : ats.size = 1 ∧ avs.size = 1
               · rw [if_pos hc, if_pos hc, getd h' (by omega)]
               · rw [if_neg hc, if_neg hc]
      | append => simp only [aop, ho]; by_cases hc : ats.size = 2 ∧ avs.size = 2 ∧ o.dst.isSome = true ∧ an.np ≤ o.dst.getD 0
                  · rw [if_pos hc, if_pos hc, getd h' (n := 0) (by omega), getd h' (n := 1) (by omega)]
                  · rw [if_neg hc, if_neg hc]
      | clear => simp only [aop, ho]; by_cases hc : ats.size = 1 ∧ avs.size = 1
                 · rw [if_pos hc, if_pos hc, getd h' (by omega)]
                 · rw [if_neg hc, if_neg hc]
      | copy => simp only [aop, ho]; by_cases hc : ats.size = 2 ∧ avs.size = 2
                · rw [if_pos hc, if_pos hc, getd h' (n := 0) (by omega), getd h' (n := 1) (by omega)]
                · rw [if_neg hc, if_neg hc]
      | max => simp only [aop, ho, hm]
      | min => simp only [aop, ho, hm]
      | _ => simp only [aop, ho]
    | invoke r n => simp only [aop, ho]
    | value f =>
      have h' : ∀ x ∈ avs.toList, ρ x = ρ' x := fun x hx => h x (by simp [Op.operands, Call.operands]; right; simpa using hx)
      have hf : ρ f = ρ' f := h f (by simp [Op.operands, Call.operands])
      have hm : avs.toList.map ρ = avs.toList.map ρ' := List.map_congr_left h'
      simp only [aop, ho, hm, hf]
  | build t ps =>
    rw [ho] at h
    have hm : (ps.toList.map fun p => (p.1, ρ p.2)) = ps.toList.map fun p => (p.1, ρ' p.2) := List.map_congr_left fun p hp => by rw [h p.2 (by simp only [Op.operands]; exact List.mem_map.2 ⟨p, hp, rfl⟩)]
    simp only [aop, ho, hm]
  | buildSlice t n ps =>
    rw [ho] at h
    have hm : (ps.toList.map fun p => (p.1, ρ p.2)) = ps.toList.map fun p => (p.1, ρ' p.2) := List.map_congr_left fun p hp => by rw [h p.2 (by simp only [Op.operands]; exact List.mem_map.2 ⟨p, hp, rfl⟩)]
    simp only [aop, ho, hm]
  | makeFunc fn first caps =>
    rw [ho] at h
    have hm : caps.toList.map ρ = caps.toList.map ρ' := List.map_congr_left fun p hp => h p (by simp [Op.operands]; right; simpa using hp)
    cases fn <;> simp only [aop, ho, hm]
  | slice t x lo hi mx =>
    rw [ho] at h
    have h0 : ρ x = ρ' x := h x (by simp [Op.operands])
    have h1 : lo.map ρ = lo.map ρ' := by cases lo <;> simp; exact h _ (by simp [Op.operands])
    have h2 : hi.map ρ = hi.map ρ' := by cases hi <;> simp; exact h _ (by simp [Op.operands])
    have h3 : mx.map ρ = mx.map ρ' := by cases mx <;> simp; exact h _ (by simp [Op.operands])
    simp only [aop, ho, h0, h1, h2, h3]
  | typeAssert x xt t ok =>
    rw [ho] at h
    have h0 : ρ x = ρ' x := h x (by simp [Op.operands])
    cases ok <;> simp only [aop, ho, h0]
  | move x => rw [ho] at h; have h0 : ρ x = ρ' x := h x (by simp [Op.operands]); simp only [aop, ho, h0]
  | assign x => rw [ho] at h; have h0 : ρ x = ρ' x := h x (by simp [Op.operands]); simp only [aop, ho, h0]
  | box t x => rw [ho] at h; have h0 : ρ x = ρ' x := h x (by simp [Op.operands]); simp only [aop, ho, h0]
  | load t x => rw [ho] at h; have h0 : ρ x = ρ' x := h x (by simp [Op.operands]); simp only [aop, ho, h0]
  | nilCheck x => rw [ho] at h; have h0 : ρ x = ρ' x := h x (by simp [Op.operands]); simp only [aop, ho, h0]
  | unOp _ _ x => rw [ho] at h; have h0 : ρ x = ρ' x := h x (by simp [Op.operands]); simp only [aop, ho, h0]
  | convert _ _ x => rw [ho] at h; have h0 : ρ x = ρ' x := h x (by simp [Op.operands]); simp only [aop, ho, h0]
  | makeInterface _ x => rw [ho] at h; have h0 : ρ x = ρ' x := h x (by simp [Op.operands]); simp only [aop, ho, h0]
  | fieldAddr _ x _ => rw [ho] at h; have h0 : ρ x = ρ' x := h x (by simp [Op.operands]); simp only [aop, ho, h0]
  | field _ x _ => rw [ho] at h; have h0 : ρ x = ρ' x := h x (by simp [Op.operands]); simp only [aop, ho, h0]
  | extract x _ => rw [ho] at h; have h0 : ρ x = ρ' x := h x (by simp [Op.operands]); simp only [aop, ho, h0]
  | store _ x y => rw [ho] at h; have h0 : ρ x = ρ' x := h x (by simp [Op.operands]); have h1 : ρ y = ρ' y := h y (by simp [Op.operands]); simp only [aop, ho, h0, h1]
  | binOp _ _ x y _ => rw [ho] at h; have h0 : ρ x = ρ' x := h x (by simp [Op.operands]); have h1 : ρ y = ρ' y := h y (by simp [Op.operands]); simp only [aop, ho, h0, h1]
  | makeSlice _ x y => rw [ho] at h; have h0 : ρ x = ρ' x := h x (by simp [Op.operands]); have h1 : ρ y = ρ' y := h y (by simp [Op.operands]); simp only [aop, ho, h0, h1]
  | indexAddr _ x y => rw [ho] at h; have h0 : ρ x = ρ' x := h x (by simp [Op.operands]); have h1 : ρ y = ρ' y := h y (by simp [Op.operands]); simp only [aop, ho, h0, h1]
  | index _ x y => rw [ho] at h; have h0 : ρ x = ρ' x := h x (by simp [Op.operands]); have h1 : ρ y = ρ' y := h y (by simp [Op.operands]); simp only [aop, ho, h0, h1]
  | pick x y z => rw [ho] at h; have h0 : ρ x = ρ' x := h x (by simp [Op.operands]); have h1 : ρ y = ρ' y := h y (by simp [Op.operands]); have h2 : ρ z = ρ' z := h z (by simp [Op.operands]); simp only [aop, ho, h0, h1, h2]
  | _ => simp only [aop, ho]
end
end Go.Proofs.YtndgpinhbffleaaGreat


namespace Go.Proofs.YtndgpinhbffleaaGreat
open Go Go.RowKit

section
variable {P : Program} {E : Oracle} {A : FuncId → Ann} {an : Ann} {all : List Oper} {r : Nat}
def mask (V : List Id) (e : Eff) : Eff := { val := e.val.kill (inL V), ups := e.ups.map fun x => (x.1, x.2.kill (inL V)), kills := e.kills }
/-- What an operation of a drawn region does. -/
def effH (P : Program) (E : Oracle) (A : FuncId → Ann) (an : Ann) (all : List Oper) (H W V K : List Id) (o : Oper) (σ : St) : Option Eff :=
  let k := match aop P E A an o (fun x => (σ.ev x).kill (inL V)) (maskH H V σ.heap) with
    | some e => if (e.ups.all fun x => decide (x.1 ∈ W)) && e.kills.all fun x => decide (x ∈ K) then some (mask V e) else none
    | none => none
  match o.guard with
  | none => k
  | some (j, want) => match gslot all j with
    | some d => match σ.slot d with
      | .bool b => if b = want then k else some { val := .tuple [] }
      | .tuple _ => some { val := .tuple [] }
      | _ => none
    | none => none
theorem stepH_eff {i : Nat} {o : Oper} {σ : St} : stepH P E A an all r i o σ = (effH P E A an all (hwOf an r i o).1 (hwOf an r i o).2 (vkOf an r i o).1 (vkOf an r i o).2 o σ).map fun e => σ.app e o.dst := by
  unfold stepH effH guarded doOpH
  generalize vkOf an r i o = vk
  generalize hwOf an r i o = hw
  generalize aop P E A an o (fun x => (σ.ev x).kill (inL vk.1)) (maskH hw.1 vk.1 σ.heap) = y
  have g : ∀ k k' : Option Eff, k = k' → (match o.guard with
      | none => k.map fun e => σ.app e o.dst
      | some (j, want) => match gslot all j with
        | some d => match σ.slot d with
          | .bool b => if b = want then k.map fun e => σ.app e o.dst else some ⟨putS σ.slot o.dst (.tuple []), σ.heap⟩
          | .tuple _ => some ⟨putS σ.slot o.dst (.tuple []), σ.heap⟩
          | _ => none
        | none => none) = (match o.guard with
      | none => k'
      | some (j, want) => match gslot all j with
        | some d => match σ.slot d with
          | .bool b => if b = want then k' else some { val := .tuple [] }
          | .tuple _ => some { val := .tuple [] }
          | _ => none
        | none => none).map fun e => σ.app e o.dst := by
    intro k k' hk
    subst hk
    cases o.guard with
    | none => rfl
    | some p =>
      obtain ⟨j, want⟩ := p
      simp only []
      cases gslot all j with
      | none => rfl
      | some d =>
        simp only []
        cases σ.slot d with
        | bool b => simp only []; split <;> rfl
        | _ => rfl
  cases y with
  | none => exact g none none rfl
  | some e =>
    by_cases hc : ((e.ups.all fun x => decide (x.1 ∈ hw.2)) && e.kills.all fun x => decide (x ∈ vk.2)) = true
    · simp only [hc, if_true]; exact g (some (mask vk.1 e)) _ rfl
    · simp only [hc]; exact g none none rfl
structure EffOK (V W K : List Id) (e : Eff) : Prop where
  val : e.val.kill (inL V) = e.val
  ups : ∀ x ∈ e.ups, x.1 ∈ W ∧ x.2.kill (inL V) = x.2
  kills : ∀ x ∈ e.kills, x ∈ K
theorem kill_idem (H : List Id) (v : AV) : (v.kill (inL H)).kill (inL H) = v.kill (inL H) := by rw [kill_kill, or_sub (fun _ h => h)]
theorem killB_idem (H : List Id) (b : Blk) : (b.kill (inL H)).kill (inL H) = b.kill (inL H) := by rw [killB_killB, or_sub (fun _ h => h)]
theorem effH_ok {H W V K : List Id} {o : Oper} {σ : St} {e : Eff} (h : effH P E A an all H W V K o σ = some e) : EffOK V W K e := by
  have k : ∀ {e}, (match aop P E A an o (fun x => (σ.ev x).kill (inL V)) (maskH H V σ.heap) with
    | some e => if (e.ups.all fun x => decide (x.1 ∈ W)) && e.kills.all fun x => decide (x ∈ K) then some (mask V e) else none
    | none => none) = some e → EffOK V W K e := by
    intro e h
    split at h
    · split at h
      · rename_i e' _ hc
        injection h with h; subst h
        simp only [Bool.and_eq_true, List.all_eq_true, decide_eq_true_eq] at hc
        refine ⟨kill_idem V _, fun x hx => ?_, hc.2⟩
        obtain ⟨y, hy, rfl⟩ := List.mem_map.1 hx
        exact ⟨hc.1 y hy, killB_idem V _⟩
      · cases h
    · cases h
  unfold effH at h
  simp only [] at h
  cases hg : o.guard with
  | none => simp only [hg] at h; exact k h
  | some p =>
    obtain ⟨j, want⟩ := p
    simp only [hg] at h
    cases hs : gslot all j with
    | none => simp [hs] at h
    | some d =>
      simp only [hs] at h
      cases hb : σ.slot d with
      | bool b =>
        simp only [hb] at h
        split at h
        · exact k h
        · injection h with h; subst h; exact ⟨by simp [AV.kill, AV.killL], (by intro x hx; cases hx), (by intro x hx; cases hx)⟩
      | tuple l => simp only [hb] at h; injection h with h; subst h; exact ⟨by simp [AV.kill, AV.killL], (by intro x hx; cases hx), (by intro x hx; cases hx)⟩
      | _ => simp [hb] at h
theorem upds_in {id : Id} : ∀ (l : List (Id × Blk)), id ∈ keys l → ∃ b, (id, b) ∈ l ∧ ∀ h, upds h l id = some b := by
  intro l
  induction l with
  | nil => intro h; cases h
  | cons x l ih =>
    intro h
    obtain ⟨i, c⟩ := x
    by_cases hm : id ∈ keys l
    · obtain ⟨b, h1, h2⟩ := ih hm
      exact ⟨b, List.mem_cons_of_mem _ h1, fun h => h2 _⟩
    · have hi : id = i := by
        simp only [keys, List.map_cons, List.mem_cons] at h
        exact h.resolve_right hm
      subst hi
      refine ⟨c, List.mem_cons_self .., fun h => ?_⟩
      unfold upds
      rw [upds_at _ _ _ hm]; simp [HU]
theorem putS_ne {f : Slots} {d : Option Nat} {v : AV} {t : Nat} (h : d ≠ some t) : putS f d v t = f t := by
  cases d with
  | none => rfl
  | some d => simp only [putS, U]; rw [if_neg fun e => h (by rw [e])]
theorem kill_sub {K H : List Id} (h : ∀ x ∈ K, x ∈ H) (v : AV) : (v.kill (inL K)).kill (inL H) = v.kill (inL H) := by rw [kill_kill, or_sub h]
theorem kill_sub' {K H : List Id} (h : ∀ x ∈ K, x ∈ H) (v : AV) : (v.kill (inL H)).kill (inL K) = v.kill (inL H) := by rw [kill_kill, or_sub' h]
theorem killB_sub {K H : List Id} (h : ∀ x ∈ K, x ∈ H) (v : Blk) : (v.kill (inL K)).kill (inL H) = v.kill (inL H) := by rw [killB_killB, or_sub h]
theorem killB_sub' {K H : List Id} (h : ∀ x ∈ K, x ∈ H) (v : Blk) : (v.kill (inL H)).kill (inL K) = v.kill (inL H) := by rw [killB_killB, or_sub' h]
/-- What an operation does is not changed by one that is apart from it. -/
theorem effH_other {H W V K V' W' K' : List Id} {o o' : Oper} {σ : St} {e' : Eff} (ok : EffOK V' W' K' e') (hd : ∀ t, o'.dst = some t → t ∉ looks all o) (hW : ∀ x ∈ W', x ∈ H) (hV : ∀ x ∈ K', x ∈ V) (hKW : ∀ x ∈ K', x ∈ W') : effH P E A an all H W V K o (σ.app e' o'.dst) = effH P E A an all H W V K o σ := by
  have hK : ∀ x ∈ e'.kills, x ∈ V := fun x hx => hV x (ok.kills x hx)
  have slot : ∀ t, t ∈ looks all o → (σ.app e' o'.dst).slot t = (σ.slot t).kill (inL e'.kills) := by
    intro t ht
    rw [app_eq]
    simp only []
    rw [putS_ne fun h => hd t h ht]
    rfl
  have hρ : ∀ x ∈ o.op.operands.toList, ((σ.app e' o'.dst).ev x).kill (inL V) = (σ.ev x).kill (inL V) := by
    intro x hx
    cases x with
    | tmp t =>
      have : t ∈ looks all o := by
        unfold looks
        exact List.mem_append_left _ (List.mem_filterMap.2 ⟨_, hx, rfl⟩)
      simp only [St.ev]
      rw [slot t this, kill_sub hK]
    | _ => rfl
  have hheap : maskH H V (σ.app e' o'.dst).heap = maskH H V σ.heap := by
    funext id
    rw [app_eq]
    unfold maskH
    cases hid : inL H id with
    | true => rfl
    | false =>
      simp only []
      have hnot : id ∉ H := by simpa [inL] using hid
      have h1 : id ∉ keys e'.ups := fun hm => by
        obtain ⟨x, hx, rfl⟩ := List.mem_map.1 hm
        exact hnot (hW _ (ok.ups x hx).1)
      have h2 : id ∉ e'.kills := fun hm => hnot (hW _ (hKW _ (ok.kills id hm)))
      rw [upds_at _ _ _ h1]
      unfold killH
      simp only [show inL e'.kills id = false from by simp [inL, h2]]
      cases σ.heap id with
      | none => rfl
      | some b => simp only [Option.map_some]; rw [killB_sub hK]
  unfold effH
  rw [aop_congr (ρ := fun x => ((σ.app e' o'.dst).ev x).kill (inL V)) (ρ' := fun x => (σ.ev x).kill (inL V)) hρ, hheap]
  cases hg : o.guard with
  | none => rfl
  | some p =>
    obtain ⟨j, want⟩ := p
    simp only []
    cases hs : gslot all j with
    | none => rfl
    | some d =>
      simp only []
      have hl : d ∈ looks all o := by
        unfold looks
        refine List.mem_append_right _ ?_
        rw [hg]; simp [hs]
      rw [slot d hl]
      cases hb : σ.slot d with
      | ref id off len => simp only [AV.kill]; cases inL e'.kills id <;> rfl
      | ptr id idx off => simp only [AV.kill]; cases inL e'.kills id <;> rfl
      | tuple l => simp only [AV.kill]
      | _ => rfl
theorem app_swap {H V W K V' W' K' : List Id} {σ : St} {e e' : Eff} {d d' : Option Nat} (ok : EffOK V W K e) (ok' : EffOK V' W' K' e') (hd : ∀ t, d = some t → d' ≠ some t) (h2 : ∀ x ∈ W', x ∈ H) (h3 : ∀ x ∈ W, x ∉ H) (v1 : ∀ x ∈ K, x ∈ V') (v2 : ∀ x ∈ K', x ∈ V) (s1 : ∀ x ∈ K, x ∈ W) (s2 : ∀ x ∈ K', x ∈ W') : (σ.app e d).app e' d' = (σ.app e' d').app e d := by
  have k1 : ∀ x ∈ e.kills, x ∈ V' := fun x hx => v1 x (ok.kills x hx)
  have k2 : ∀ x ∈ e'.kills, x ∈ V := fun x hx => v2 x (ok'.kills x hx)
  have k3 : ∀ x ∈ e'.kills, x ∈ H := fun x hx => h2 x (s2 x (ok'.kills x hx))
  simp only [app_eq]
  congr 1
  · funext t
    by_cases ht : d = some t
    · subst ht
      have hne := hd t rfl
      rw [putS_ne hne]
      simp only [killS, putS, U, if_true]
      rw [← ok.val, kill_sub' k2]
    · rw [putS_ne (f := killS (inL e.kills) (putS (killS (inL e'.kills) σ.slot) d' e'.val)) ht]
      by_cases ht' : d' = some t
      · subst ht'
        simp only [killS, putS, U, if_true]
        rw [← ok'.val, kill_sub' k1]
      · rw [putS_ne ht']
        simp only [killS]
        rw [putS_ne ht, putS_ne ht']
        simp only [killS]
        rw [kill_kill, kill_kill, or_comm']
  · funext id
    by_cases hu : id ∈ keys e.ups
    · obtain ⟨b, hb, hb'⟩ := upds_in e.ups hu
      have hW : id ∈ W := (ok.ups _ hb).1
      have hn : id ∉ keys e'.ups := fun hm => by
        obtain ⟨y, hy, hyx⟩ := List.mem_map.1 hm
        have := h2 _ (ok'.ups y hy).1
        rw [hyx] at this
        exact h3 _ hW this
      have hk : inL e'.kills id = false := by
        have : id ∉ e'.kills := fun hm => h3 _ hW (k3 _ hm)
        simp [inL, this]
      rw [upds_at _ _ _ hn, hb']
      unfold killH
      simp only [hk]
      have := hb' (killH (inL e.kills) σ.heap)
      unfold killH at this
      rw [this]
      simp only [Option.map_some]
      have := (ok.ups _ hb).2
      simp only at this
      rw [← this, killB_sub' k2]
    · by_cases hu' : id ∈ keys e'.ups
      · obtain ⟨b, hb, hb'⟩ := upds_in e'.ups hu'
        have hW : id ∈ W' := (ok'.ups _ hb).1
        have hk : inL e.kills id = false := by
          have : id ∉ e.kills := fun hm => h3 _ (s1 _ (ok.kills _ hm)) (h2 _ hW)
          simp [inL, this]
        rw [upds_at _ _ _ hu, hb']
        unfold killH
        simp only [hk]
        have := hb' (killH (inL e'.kills) σ.heap)
        unfold killH at this
        rw [this]
        simp only [Option.map_some]
        have := (ok'.ups _ hb).2
        simp only at this
        rw [← this, killB_sub' k1]
      · rw [upds_at _ _ _ hu, upds_at _ _ _ hu']
        unfold killH
        rw [upds_at _ _ _ hu, upds_at _ _ _ hu']
        cases inL e.kills id <;> cases inL e'.kills id <;> simp only []
        · cases σ.heap id with
          | none => rfl
          | some b => simp only [Option.map_some]; rw [killB_killB, killB_killB, or_comm']
        all_goals rfl
end
end Go.Proofs.YtndgpinhbffleaaGreat


namespace Go.Proofs.YtndgpinhbffleaaGreat
open Go Go.RowKit

section
variable {P : Program} {E : Oracle} {A : FuncId → Ann} {an : Ann} {all : List Oper} {r : Nat}
def runI (P : Program) (E : Oracle) (A : FuncId → Ann) (an : Ann) (all : List Oper) (r : Nat) : List Nat → St → Option St
  | [], σ => some σ
  | i :: is, σ => match all[i]? with
    | some o => match stepH P E A an all r i o σ with
      | some σ' => runI P E A an all r is σ'
      | none => none
    | none => none
theorem ropsH_runI : ∀ (os : List Oper) (k : Nat) (σ : St), (∀ j, j < os.length → os[j]? = all[k + j]?) → ropsH P E A an all r k os σ = runI P E A an all r (List.range' k os.length) σ := by
  intro os
  induction os with
  | nil => intro k σ _; rfl
  | cons o os ih =>
    intro k σ h
    have h0 : all[k]? = some o := by simpa using (h 0 (by simp)).symm
    simp only [List.length_cons, List.range'_succ, runI, ropsH, h0]
    cases stepH P E A an all r k o σ with
    | none => rfl
    | some σ' => exact ih (k + 1) σ' fun j hj => by have := h (j + 1) (by simpa using hj); simpa [Nat.add_assoc, Nat.add_comm 1 j] using this
theorem swap2 {p i : Nat} {op oi : Oper} (hp : all[p]? = some op) (hi : all[i]? = some oi) (hap : apartB an r all p i = true) (how : ∀ x ∈ (hwOf an r p op).2, x ∉ (hwOf an r p op).1) (sp : ∀ x ∈ (vkOf an r p op).2, x ∈ (hwOf an r p op).2) (si : ∀ x ∈ (vkOf an r i oi).2, x ∈ (hwOf an r i oi).2) {σ σ1 σ2 : St} (h1 : stepH P E A an all r p op σ = some σ1) (h2 : stepH P E A an all r i oi σ1 = some σ2) :
    ∃ τ, stepH P E A an all r i oi σ = some τ ∧ stepH P E A an all r p op τ = some σ2 := by
  rw [stepH_eff] at h1 h2
  obtain ⟨ep, hep, rfl⟩ := Option.map_eq_some_iff.1 h1
  obtain ⟨ei, hei, rfl⟩ := Option.map_eq_some_iff.1 h2
  have gp : all.getD p default = op := by simp [hp]
  have gi : all.getD i default = oi := by simp [hi]
  unfold apartB at hap
  rw [gp, gi] at hap
  simp only [Bool.and_eq_true, List.all_eq_true, decide_eq_true_eq] at hap
  obtain ⟨⟨⟨⟨⟨⟨a1, a2⟩, a3⟩, a4⟩, a5⟩, a6⟩, a7⟩ := hap
  have okp := effH_ok hep
  have oki := effH_ok hei
  have d1 : ∀ t, op.dst = some t → t ∉ looks all oi := by intro t ht; rw [ht] at a2; simpa using a2
  have d2 : ∀ t, oi.dst = some t → t ∉ looks all op := by intro t ht; rw [ht] at a3; simpa using a3
  have d3 : ∀ t, op.dst = some t → oi.dst ≠ some t := by intro t ht ht'; rw [ht, ht'] at a1; simp at a1
  rw [effH_other okp d1 a4 a6 sp] at hei
  refine ⟨σ.app ei oi.dst, ?_, ?_⟩
  · rw [stepH_eff, hei]; rfl
  · rw [stepH_eff, effH_other oki d2 a5 a7 si, hep]
    simp only [Option.map_some]
    rw [app_swap okp oki d3 a5 how a6 a7 sp si]
theorem front {i : Nat} {oi : Oper} (hi : all[i]? = some oi) (si : ∀ x ∈ (vkOf an r i oi).2, x ∈ (hwOf an r i oi).2) : ∀ (pre post : List Nat) (σ σ' : St), runI P E A an all r (pre ++ i :: post) σ = some σ' →
    (∀ p ∈ pre, apartB an r all p i = true ∧ ∀ op, all[p]? = some op → (∀ x ∈ (hwOf an r p op).2, x ∉ (hwOf an r p op).1) ∧ ∀ x ∈ (vkOf an r p op).2, x ∈ (hwOf an r p op).2) → ∃ τ, stepH P E A an all r i oi σ = some τ ∧ runI P E A an all r (pre ++ post) τ = some σ' := by
  intro pre
  induction pre with
  | nil =>
    intro post σ σ' h _
    simp only [List.nil_append, runI, hi] at h ⊢
    cases hs : stepH P E A an all r i oi σ with
    | none => simp [hs] at h
    | some τ => simp only [hs] at h; exact ⟨τ, rfl, h⟩
  | cons p pre ih =>
    intro post σ σ' h hp
    simp only [List.cons_append, runI] at h ⊢
    cases ho : all[p]? with
    | none => simp [ho] at h
    | some op =>
      simp only [ho] at h
      cases hs : stepH P E A an all r p op σ with
      | none => simp [hs] at h
      | some σ1 =>
        simp only [hs] at h
        obtain ⟨τ1, h1, h2⟩ := ih post σ1 σ' h fun q hq => hp q (List.mem_cons_of_mem _ hq)
        obtain ⟨τ, h3, h4⟩ := swap2 ho hi (hp p (List.mem_cons_self ..)).1 ((hp p (List.mem_cons_self ..)).2 op ho).1 ((hp p (List.mem_cons_self ..)).2 op ho).2 si hs h1
        refine ⟨τ, h3, ?_⟩
        simp only [h4]; exact h2
theorem Done.mask {np : Nat} {g : Heap} {w w' : World} {ι ι' : Map} {e : Eff} {v : Value} (D : Done np g w ι e v w' ι') (H : List Id) : Done np g w ι (mask H e) v w' ι' := by
  have hk : keys (Go.Proofs.YtndgpinhbffleaaGreat.mask H e).ups = keys e.ups := by simp [keys, Go.Proofs.YtndgpinhbffleaaGreat.mask, Function.comp_def]
  refine ⟨by rw [hk]; exact D.ext, D.val.killed (inL H) (fun _ _ _ h => h), fun id b hm => ?_, fun id h1 h2 => D.same id h1 (by rw [hk] at h2; exact h2), D.same', D.new, D.newn, D.inj, D.sep, D.live, fun id h1 h2 => D.gone id h1 (by rw [hk] at h2; exact h2), fun id h1 h2 => D.lent id h1 (by rw [hk] at h2; exact h2), by rw [hk]; exact D.nodup, fun id h => D.real id (by rw [hk] at h; exact h), D.phs⟩
  obtain ⟨x, hx, hxe⟩ := List.mem_map.1 hm
  injection hxe with e1 e2; subst e1; subst e2
  exact (D.ups x.1 x.2 hx).killed (inL H) rfl rfl (fun _ _ _ h => h)
theorem stepH_sound (hO : OpsOK P E A an) {nt : Nat} {w0 : World} {ι0 : Map} {i : Nat} {o : Oper} {σ σ' : St} (hop : all[i]? = some o) (e : stepH P E A an all r i o σ = some σ') (hWH : ∀ x ∈ (hwOf an r i o).2, x ∉ (hwOf an r i o).1) {w : World} {ι : Map} {a : Act} (M : Mid an.np nt w0 ι0 w σ ι a) (hd : dstIn nt o)
    (Q : Exit → Act → World → Prop) (K : Act → World → Prop) (hn : ∀ w ι a, Mid an.np nt w0 ι0 w σ' ι a → K a w) : wpOp P all.toArray Q i K a w := by
  unfold wpOp
  have : all.toArray[i]? = some o := by simpa using hop
  simp only [this]
  unfold stepH at e
  rcases wanted_of M e with ⟨h1, h2⟩ | ⟨h1, h2⟩
  · rw [if_pos h1]
    left
    unfold doOpH at h2
    generalize vkOf an r i o = vk at *
    generalize hwOf an r i o = hw at *
    obtain ⟨H, W⟩ := hw
    obtain ⟨V, L⟩ := vk
    simp only at h2 hWH
    split at h2
    · rename_i ef hef
      split at h2
      · rename_i hc
        injection h2 with h2; subst h2
        simp only [Bool.and_eq_true, List.all_eq_true, decide_eq_true_eq] at hc
        refine hO o _ _ ef a w ι hef ⟨fun id b hb => ?_, M.rel.inv.inj, M.rel.inv.sep, M.rel.inv.live, fun id b hb => ?_⟩ (fun x => (M.ev x).killed (inL V) fun _ _ _ h => h) (fun id k hid hph hi => ?_) K Q fun v w' ι' D => hn _ _ _ (M.app (D.mask V) (fun id h => ?_) o.dst hd)
        · unfold maskH at hb
          split at hb
          · cases hb
          · cases hb' : σ.heap id with
            | none => simp [hb'] at hb
            | some b' =>
              simp [hb'] at hb; subst hb
              exact (M.rel.inv.blk id b' hb').killed (inL V) rfl rfl fun _ _ _ h => h
        · unfold maskH at hb
          split at hb
          · cases hb
          · cases hb' : σ.heap id with
            | none => simp [hb'] at hb
            | some b' => exact M.rel.inv.real id b' hb'
        · obtain ⟨x, hx, rfl⟩ := List.mem_map.1 hid
          have hnH := hWH _ (hc.1 x hx)
          have hf : inL H x.1 = false := by simp [inL, hnH]
          have := (M.rel.dom x.1 k hi).resolve_left (by simp [hph])
          simp only [maskH, hf]; simpa using this
        · unfold maskH at h
          split at h
          · cases h
          · simpa using h
      · cases h2
    · cases h2
  · rw [h1]
    simp only [Bool.false_eq_true, if_false]
    subst h2
    exact hn _ _ _ (M.dead o.dst hd)
end
end Go.Proofs.YtndgpinhbffleaaGreat


namespace Go.Proofs.YtndgpinhbffleaaGreat
open Go Go.RowKit

def rem (n : Nat) (listed : Array Bool) : List Nat := (List.range n).filter fun i => !listed.getD i true
theorem rem_mem {n i : Nat} {listed : Array Bool} : i ∈ rem n listed ↔ i < n ∧ listed.getD i true = false := by simp [rem]
theorem rem_split {n i : Nat} {listed : Array Bool} (hs : listed.size = n) (h : i ∈ rem n listed) : ∃ pre post, rem n listed = pre ++ i :: post ∧ rem n (listed.setIfInBounds i true) = pre ++ post ∧ ∀ p ∈ pre, p < i ∧ listed.getD p true = false := by
  obtain ⟨pre, post, hpp⟩ := List.append_of_mem h
  have hpw : (rem n listed).Pairwise (· < ·) := List.Pairwise.filter _ List.pairwise_lt_range
  rw [hpp, List.pairwise_append] at hpw
  obtain ⟨_, h2, h3⟩ := hpw
  rw [List.pairwise_cons] at h2
  refine ⟨pre, post, hpp, ?_, fun p hp => ⟨h3 p hp i (List.mem_cons_self ..), ?_⟩⟩
  · have hin := rem_mem.1 h
    have : rem n (listed.setIfInBounds i true) = (rem n listed).filter fun k => decide (k ≠ i) := by
      unfold rem
      rw [List.filter_filter]
      refine List.filter_congr fun k hk => ?_
      have hk' : k < n := by simpa using hk
      by_cases hki : k = i
      · subst hki
        have : (listed.setIfInBounds k true).getD k true = true := by simp [hs, hk']
        rw [this]; simp
      · have hik : ¬ i = k := fun e => hki e.symm
        have : (listed.setIfInBounds i true).getD k true = listed.getD k true := by
          simp only [Array.getD_eq_getD_getElem?, Array.getElem?_setIfInBounds, hik, if_false]
        rw [this]; simp [hki]
    rw [this, hpp, List.filter_append, List.filter_cons]
    have e1 : pre.filter (fun k => decide (k ≠ i)) = pre := List.filter_eq_self.2 fun k hk => by
      have := h3 k hk i (List.mem_cons_self ..)
      have : k ≠ i := by omega
      simp [this]
    have e2 : post.filter (fun k => decide (k ≠ i)) = post := List.filter_eq_self.2 fun k hk => by
      have := h2.1 k hk
      have : k ≠ i := by omega
      simp [this]
    rw [e1, e2]; simp
  · have : p ∈ rem n listed := by rw [hpp]; exact List.mem_append_left _ hp
    exact (rem_mem.1 this).2
section
variable {P : Program} {E : Oracle} {A : FuncId → Ann} {an : Ann} {all : List Oper} {r : Nat}
structure Told (an : Ann) (r : Nat) (all : List Oper) (T : List (List Nat)) : Prop where
  anc : ∀ i, i < all.length → ∀ j ∈ T.getD i [], j ∈ preds (all.getD i default) ∨ ∃ d ∈ preds (all.getD i default), j ∈ T.getD d []
  back : ∀ i, i < all.length → ∀ d ∈ preds (all.getD i default), d < i
  own : ∀ i, i < all.length → ∀ x ∈ (hwOf an r i (all.getD i default)).2, x ∉ (hwOf an r i (all.getD i default)).1
  sub : ∀ i, i < all.length → ∀ x ∈ (vkOf an r i (all.getD i default)).2, x ∈ (hwOf an r i (all.getD i default)).2
  apart : ∀ i, i < all.length → ∀ j, j < i → j ∈ T.getD i [] ∨ apartB an r all j i = true
theorem told_of (h : drawOK an r all = true) : ∃ T, Told an r all T := by
  unfold drawOK at h
  simp only [Bool.and_eq_true, List.all_eq_true, List.mem_range, decide_eq_true_eq, Bool.not_eq_true', decide_eq_false_iff_not, Bool.or_eq_true, ancOK, List.any_eq_true] at h
  obtain ⟨h1, h2⟩ := h
  exact ⟨ancs all [], h1, fun i hi => (h2 i hi).1.1.1, fun i hi => (h2 i hi).1.1.2, fun i hi => (h2 i hi).1.2, fun i hi => (h2 i hi).2⟩
def Closed (all : List Oper) (listed : Array Bool) : Prop := ∀ i, i < all.length → listed.getD i true = true → ∀ d ∈ preds (all.getD i default), listed.getD d true = true
theorem anc_listed {T : List (List Nat)} (hT : Told an r all T) {listed : Array Bool} (hc : Closed all listed) : ∀ i, i < all.length → (∀ d ∈ preds (all.getD i default), listed.getD d true = true) → ∀ j ∈ T.getD i [], listed.getD j true = true := by
  intro i
  induction i using Nat.strongRecOn with
  | _ i ih =>
    intro hi hd j hj
    rcases hT.anc i hi j hj with h | ⟨d, hdp, hjd⟩
    · exact hd j h
    · have hdi := hT.back i hi d hdp
      exact ih d hdi (by omega) (hc d (by omega) (hd d hdp)) j hjd
theorem ready_spec {listed : Array Bool} (hs : listed.size = all.length) {i : Nat} : i ∈ Region.ready .any all.toArray listed ↔ i ∈ rem all.length listed ∧ ∀ d ∈ preds (all.getD i default), listed.getD d false = true := by
  unfold Region.ready
  rw [List.mem_filter, rem_mem]
  simp only [List.mem_range, List.size_toArray, Bool.and_eq_true, Bool.not_eq_true', and_assoc]
  refine and_congr_right fun hi => and_congr_right fun _ => ?_
  have hg : all.toArray[i]? = some all[i] := by simp [hi]
  have hg' : all.getD i default = all[i] := by simp [hi]
  rw [hg, hg']
  simp only [Option.map_some, Option.getD_some, preds]
  rw [← Array.all_toList, List.all_eq_true]
  constructor
  · intro h d hd
    obtain ⟨e, he, rfl⟩ := List.mem_map.1 hd
    obtain ⟨h1, h2⟩ := List.mem_filter.1 he
    have := h e h1
    simpa [h2] using this
  · intro h e he
    cases hb : Region.binds .any e with
    | false => simp
    | true => simpa using h e.on (List.mem_map.2 ⟨e, List.mem_filter.2 ⟨he, hb⟩, rfl⟩)
theorem getD_ft {listed : Array Bool} {d : Nat} (h : listed.getD d false = true) : listed.getD d true = true := by
  by_cases hd : d < listed.size
  · simp [hd] at h ⊢; exact h
  · simp [hd] at h
theorem any_sound (hO : OpsOK P E A an) {T : List (List Nat)} (hT : Told an r all T) {nt : Nat} {w0 : World} {ι0 : Map} {σ' : St} (hd : ∀ o ∈ all, dstIn nt o) (Q : Exit → Act → World → Prop) (hQ : ∀ w ι a, Mid an.np nt w0 ι0 w σ' ι a → Q .normal a w) :
    ∀ (fuel : Nat) (listed : Array Bool) (σ : St) (w : World) (ι : Map) (a : Act), listed.size = all.length → Closed all listed → (rem all.length listed).length ≤ fuel → runI P E A an all r (rem all.length listed) σ = some σ' → Mid an.np nt w0 ι0 w σ ι a →
      wpAny P .any all.toArray Q fuel listed a w := by
  have empty : ∀ (listed : Array Bool), listed.size = all.length → rem all.length listed = [] → Region.ready .any all.toArray listed = [] := by
    intro listed hs hr
    cases hrd : Region.ready .any all.toArray listed with
    | nil => rfl
    | cons i is =>
      have : i ∈ Region.ready .any all.toArray listed := by rw [hrd]; exact List.mem_cons_self ..
      have := ((ready_spec hs).1 this).1
      rw [hr] at this; cases this
  have full : ∀ (listed : Array Bool), listed.size = all.length → Region.ready .any all.toArray listed = [] → rem all.length listed = [] := by
    intro listed hs hrd
    cases hr : rem all.length listed with
    | nil => rfl
    | cons m ms =>
      have hm : m ∈ rem all.length listed := by rw [hr]; exact List.mem_cons_self ..
      have hpw : (rem all.length listed).Pairwise (· < ·) := List.Pairwise.filter _ List.pairwise_lt_range
      rw [hr, List.pairwise_cons] at hpw
      have hmn := (rem_mem.1 hm).1
      have : m ∈ Region.ready .any all.toArray listed := (ready_spec hs).2 ⟨hm, fun d hdp => by
        have hdm := hT.back m hmn d hdp
        have hdn : d < listed.size := by omega
        have hnr : d ∉ rem all.length listed := fun h => by
          rw [hr] at h
          rcases List.mem_cons.1 h with h | h
          · omega
          · have := hpw.1 d h; omega
        rw [rem_mem] at hnr
        have : listed.getD d true ≠ false := fun h => hnr ⟨by omega, h⟩
        simp [hdn] at this ⊢
        exact this⟩
      rw [hrd] at this; cases this
  intro fuel
  induction fuel with
  | zero =>
    intro listed σ w ι a hs _ hf hr M
    have he : rem all.length listed = [] := List.eq_nil_of_length_eq_zero (by omega)
    refine ⟨empty listed hs he, ?_⟩
    rw [he] at hr
    simp only [runI] at hr
    injection hr with hr; subst hr
    exact hQ w ι a M
  | succ fuel ih =>
    intro listed σ w ι a hs hc hf hr M
    refine ⟨fun hrd => ?_, fun i hi => ?_⟩
    · rw [full listed hs hrd] at hr
      simp only [runI] at hr
      injection hr with hr; subst hr
      exact hQ w ι a M
    · obtain ⟨hi1, hi2⟩ := (ready_spec hs).1 hi
      obtain ⟨hin, _⟩ := rem_mem.1 hi1
      have hi3 : ∀ d ∈ preds (all.getD i default), listed.getD d true = true := fun d hd => getD_ft (hi2 d hd)
      obtain ⟨pre, post, hpp, hpp', hpre⟩ := rem_split hs hi1
      have hoi : all[i]? = some (all.getD i default) := by simp [hin]
      rw [hpp] at hr
      obtain ⟨τ, h1, h2⟩ := front hoi (hT.sub i hin) pre post σ σ' hr fun p hp => by
        obtain ⟨hp1, hp2⟩ := hpre p hp
        refine ⟨?_, fun op hop => ?_⟩
        · rcases hT.apart i hin p hp1 with h | h
          · have := anc_listed hT hc i hin hi3 p h
            rw [hp2] at this; cases this
          · exact h
        · have := hT.own p (by omega)
          have h3 := hT.sub p (by omega)
          have hg : all.getD p default = op := by simp [hop]
          rw [hg] at this h3; exact ⟨this, h3⟩
      refine stepH_sound hO hoi h1 (hT.own i hin) M (hd _ (List.mem_of_getElem? hoi)) Q _ fun w' ι' a' M' => ih _ τ w' ι' a' (by simp [hs]) (fun k hk hlk d hdk => ?_) (by rw [hpp']; rw [hpp] at hf; simp at hf ⊢; omega) (by rw [hpp']; exact h2) M'
      have up : ∀ d, listed.getD d true = true → (listed.setIfInBounds i true).getD d true = true := by
        intro d hd
        simp only [Array.getD_eq_getD_getElem?, Array.getElem?_setIfInBounds] at hd ⊢
        split
        · split <;> rfl
        · exact hd
      by_cases hki : k = i
      · subst hki; exact up d (hi3 d hdk)
      · have hik : ¬ i = k := fun e => hki e.symm
        have : listed.getD k true = true := by
          simp only [Array.getD_eq_getD_getElem?, Array.getElem?_setIfInBounds, hik, if_false] at hlk ⊢
          exact hlk
        exact up d (hc k hk this d hdk)
theorem draws_sound (hO : OpsOK P E A an) (hm : P.follows .mixedOrders = true) : ∀ (c : Code), drawsOK an c = true → DrawsOK P E A an c := by
  intro c
  induction c with
  | region id os draw =>
    intro h
    cases draw with
    | false => trivial
    | true =>
      intro nt w0 ι0 Q σ σ' w ι a hr M hd hQ
      simp only [drawsOK, Bool.not_true, Bool.false_or] at h
      obtain ⟨T, hT⟩ := told_of h
      refine wp_region_any hm ?_
      have hos : os = os.toList.toArray := by simp
      rw [ropsH_runI os.toList 0 σ (fun j _ => by simp)] at hr
      have hrem : rem os.toList.length (Array.replicate os.size false) = List.range' 0 os.toList.length := by
        unfold rem
        rw [List.range_eq_range']
        refine List.filter_eq_self.2 fun k hk => ?_
        have : k < os.size := by simpa using hk
        simp [this]
      have := any_sound (all := os.toList) (r := id) hO hT hd Q hQ os.size (Array.replicate os.size false) σ { w with drawn := w.drawn + 1 } ι a (by simp) (fun i hi hl => by
        have : i < os.size := by simpa using hi
        simp [this] at hl) (by rw [hrem]; simp) (by rw [hrem]; exact hr) M.drew
      simpa using this
  | seq x y ihx ihy => intro h; simp only [drawsOK, Bool.and_eq_true] at h; exact ⟨ihx h.1, ihy h.2⟩
  | cond _ x y ihx ihy => intro h; simp only [drawsOK, Bool.and_eq_true] at h; exact ⟨ihx h.1, ihy h.2⟩
  | block _ x ih => intro h; simp only [drawsOK] at h; exact ih h
  | loop x ih => intro h; simp only [drawsOK] at h; exact ih h
  | _ => intro _; trivial
end
end Go.Proofs.YtndgpinhbffleaaGreat


namespace Go.Proofs.YtndgpinhbffleaaGreat
open Go Go.RowKit

def omap (ι : Map) (ids : List Id) : Map := ⟨fun x => match ownIx x with
  | some k => match ids[k]? with
    | some i => ι i
    | none => none
  | none => none, fun x c => match ownIx x with
  | some k => match ids[k]? with
    | some i => ι.n i c
    | none => False
  | none => False⟩
theorem omap_name {ι : Map} {ids : List Id} {x : Id} {p : Nat × Nat} (h : omap ι ids x = some p) : ∃ (k : Nat) (i : Id), x = [k, 0, 0, 0] ∧ ids[k]? = some i ∧ ι i = some p := by
  unfold omap at h
  cases hx : ownIx x with
  | none => simp [hx] at h
  | some k =>
    simp only [hx] at h
    split at h
    · rename_i i hi; exact ⟨k, i, ownIx_some hx, hi, h⟩
    · cases h
theorem omap_nest {ι : Map} {ids : List Id} {x : Id} {c : Nat} (h : (omap ι ids).n x c) : ∃ (k : Nat) (i : Id), x = [k, 0, 0, 0] ∧ ids[k]? = some i ∧ ι.n i c := by
  unfold omap at h
  cases hx : ownIx x with
  | none => simp [hx] at h
  | some k =>
    simp only [hx] at h
    split at h
    · rename_i i hi; exact ⟨k, i, ownIx_some hx, hi, h⟩
    · exact h.elim
theorem omap_inv {ι : Map} {ids : List Id} {x : Id} {c : Nat} (h : Foot (omap ι ids) x c) : ∃ (k : Nat) (i : Id), x = [k, 0, 0, 0] ∧ ids[k]? = some i ∧ Foot ι i c := by
  rcases h with ⟨s, h⟩ | h
  · obtain ⟨k, i, h1, h2, h3⟩ := omap_name h
    exact ⟨k, i, h1, h2, .name h3⟩
  · obtain ⟨k, i, h1, h2, h3⟩ := omap_nest h
    exact ⟨k, i, h1, h2, .inr h3⟩
section
variable {w : World} {O : Nat → Prop} {ι τ : Map} {ks : List Id}
mutual
theorem expo_spec (hk : ∀ id ∈ ks, τ id = ι id) (v : AV) (l l' : List Id) (v' : AV) (e : AV.expo ks l v = some (v', l')) : (∃ m, l' = l ++ m) ∧ (l.Nodup → l'.Nodup) ∧ ∀ (ids : List Id) (x : Value), (∃ m, ids = l' ++ m) → (∀ (k : Nat) (i : Id), ids[k]? = some i → τ [k, 0, 0, 0] = ι i) → Rep w O ι v x → Rep w O τ v' x := by
  cases v with
  | agg cs =>
    unfold AV.expo at e
    cases hq : AV.expoL ks l cs with
    | none => simp [hq] at e
    | some q =>
      obtain ⟨q, l1⟩ := q
      simp only [hq] at e
      injection e with e; injection e with e1 e2; subst e1; subst e2
      obtain ⟨h1, h2, h3, h4⟩ := expoL_spec hk cs l l1 q hq
      refine ⟨h1, h2, fun ids x hm hτ r => ?_⟩
      cases r with
      | agg hl hr => exact .agg (h3.trans hl) fun i hi => h4 ids hm hτ i (by omega) _ (hr i (by omega))
  | tuple cs =>
    unfold AV.expo at e
    cases hq : AV.expoL ks l cs with
    | none => simp [hq] at e
    | some q =>
      obtain ⟨q, l1⟩ := q
      simp only [hq] at e
      injection e with e; injection e with e1 e2; subst e1; subst e2
      obtain ⟨h1, h2, h3, h4⟩ := expoL_spec hk cs l l1 q hq
      refine ⟨h1, h2, fun ids x hm hτ r => ?_⟩
      cases r with
      | tuple hl hr => exact .tuple (h3.trans hl) fun i hi => h4 ids hm hτ i (by omega) _ (hr i (by omega))
  | fn f cs =>
    unfold AV.expo at e
    split at e
    · rename_i hid
      injection e with e; injection e with e1 e2; subst e1; subst e2
      have hid' : (AV.fn f cs).ids = [] := by simpa [AV.ids] using hid
      exact ⟨⟨[], by simp⟩, fun h => h, fun ids x _ _ r => r.noIds _ hid'⟩
    · cases e
  | iface t v =>
    unfold AV.expo at e
    split at e
    · rename_i hid
      injection e with e; injection e with e1 e2; subst e1; subst e2
      have hid' : (AV.iface t v).ids = [] := by simpa [AV.ids] using hid
      exact ⟨⟨[], by simp⟩, fun h => h, fun ids x _ _ r => r.noIds _ hid'⟩
    · cases e
  | ptr id idx off =>
    unfold AV.expo at e
    split at e
    · rename_i hm
      injection e with e; injection e with e1 e2; subst e1; subst e2
      refine ⟨⟨[], by simp⟩, fun h => h, fun ids x _ _ r => ?_⟩
      cases r with
      | ptr hι => exact .ptr (by rw [hk id (by simpa using hm)]; exact hι)
    · split at e
      · cases e
      · rename_i hn
        injection e with e; injection e with e1 e2; subst e1; subst e2
        refine ⟨⟨[id], rfl⟩, fun h => ?_, fun ids x hm hτ r => ?_⟩
        · rw [List.nodup_append]
          exact ⟨h, by simp, fun a ha b hb => by simp at hb; subst hb; intro e; subst e; exact hn ha⟩
        · obtain ⟨m, rfl⟩ := hm
          have hat : τ [l.length, 0, 0, 0] = ι id := hτ l.length id (by simp)
          cases r with
          | ptr hι => exact .ptr (by rw [hat]; exact hι)
  | ref id off len =>
    unfold AV.expo at e
    split at e
    · rename_i hm
      injection e with e; injection e with e1 e2; subst e1; subst e2
      refine ⟨⟨[], by simp⟩, fun h => h, fun ids x _ _ r => ?_⟩
      cases r with
      | ref hι hs hcap hnn => exact .ref (by rw [hk id (by simpa using hm)]; exact hι) hs hcap hnn
      | refE => exact .refE _ _ _
    · split at e
      · cases e
      · rename_i hn
        injection e with e; injection e with e1 e2; subst e1; subst e2
        refine ⟨⟨[id], rfl⟩, fun h => ?_, fun ids x hm hτ r => ?_⟩
        · rw [List.nodup_append]
          exact ⟨h, by simp, fun a ha b hb => by simp at hb; subst hb; intro e; subst e; exact hn ha⟩
        · obtain ⟨m, rfl⟩ := hm
          have hat : τ [l.length, 0, 0, 0] = ι id := hτ l.length id (by simp)
          cases r with
          | ref hι hs hcap hnn => exact .ref (by rw [hat]; exact hι) hs hcap hnn
          | refE => exact .refE _ _ _
  | _ =>
    all_goals
      unfold AV.expo at e
      injection e with e; injection e with e1 e2; subst e1; subst e2
      exact ⟨⟨[], by simp⟩, fun h => h, fun ids x _ _ r => r.noIds _ (by simp [AV.ids])⟩
  termination_by SizeOf.sizeOf v
theorem expoL_spec (hk : ∀ id ∈ ks, τ id = ι id) (cs : List AV) (l l' : List Id) (cs' : List AV) (e : AV.expoL ks l cs = some (cs', l')) : (∃ m, l' = l ++ m) ∧ (l.Nodup → l'.Nodup) ∧ cs'.length = cs.length ∧ ∀ (ids : List Id), (∃ m, ids = l' ++ m) → (∀ (k : Nat) (i : Id), ids[k]? = some i → τ [k, 0, 0, 0] = ι i) → ∀ i, i < cs.length → ∀ x : Value, Rep w O ι (cs.getD i .dead) x → Rep w O τ (cs'.getD i .dead) x := by
  cases cs with
  | nil =>
    simp only [AV.expoL] at e
    injection e with e; injection e with e1 e2; subst e1; subst e2
    exact ⟨⟨[], by simp⟩, fun h => h, rfl, fun ids _ _ i hi => by simp at hi⟩
  | cons c cs =>
    unfold AV.expoL at e
    cases h1 : AV.expo ks l c with
    | none => simp [h1] at e
    | some q =>
      obtain ⟨c', l1⟩ := q
      simp only [h1] at e
      cases h2 : AV.expoL ks l1 cs with
      | none => simp [h2] at e
      | some q =>
        obtain ⟨q, l2⟩ := q
        simp only [h2] at e
        injection e with e; injection e with e1 e2; subst e1; subst e2
        obtain ⟨⟨m1, a1⟩, a2, a3⟩ := expo_spec hk c l l1 c' h1
        obtain ⟨⟨m2, b1⟩, b2, b3, b4⟩ := expoL_spec hk cs l1 l2 q h2
        refine ⟨⟨m1 ++ m2, by rw [b1, a1, List.append_assoc]⟩, fun h => b2 (a2 h), by simp [b3], fun ids hm hτ i hi x r => ?_⟩
        cases i with
        | zero =>
          obtain ⟨m, hm⟩ := hm
          have := a3 ids x ⟨m2 ++ m, by rw [hm, b1, List.append_assoc]⟩ hτ (by simpa using r)
          simpa using this
        | succ i =>
          have := b4 ids hm hτ i (by simpa using hi) x (by simpa using r)
          simpa using this
  termination_by SizeOf.sizeOf cs
end
end
theorem blksOf_spec {h : Heap} : ∀ {is : List Id} {bs : List Blk}, blksOf h is = some bs → is.length = bs.length ∧ ∀ (k : Nat) (i : Id), is[k]? = some i → ∃ b, h i = some b ∧ (b.isVar = false ∨ AV.idsL b.els = []) ∧ bs[k]? = some b := by
  intro is
  induction is with
  | nil => intro bs e; simp [blksOf] at e; subst e; exact ⟨rfl, fun k i hk => by simp at hk⟩
  | cons i is ih =>
    intro bs e
    unfold blksOf at e
    split at e
    · rename_i b bs1 h1 h2
      split at e
      · cases e
      · rename_i hv
        injection e with e; subst e
        obtain ⟨l1, l2⟩ := ih h2
        refine ⟨by simp [l1], fun k j hk => ?_⟩
        cases k with
        | zero =>
          simp at hk; subst hk
          refine ⟨b, h1, ?_, rfl⟩
          cases hb : b.isVar
          · exact .inl rfl
          · rw [hb] at hv; exact .inr (by simpa using hv)
        | succ k => simpa using l2 k j (by simpa using hk)
    · cases e
theorem ioOut_spec {ks : List Id} {h g : Heap} : ∀ {H : List (Id × Blk)} {bs : List Blk}, ioOut ks h g H = some bs → bs.length = H.length ∧ ∀ (k : Nat) (p : Id × Blk), H[k]? = some p → ∃ b b', h p.1 = some b ∧ bs[k]? = some b' ∧ ((b.isVar = false ∧ b' = b) ∨ (b.isVar = true ∧ ∃ els, AV.kpackL ks g b.els = some els ∧ b' = { b with els := els })) := by
  intro H
  induction H with
  | nil => intro bs e; simp [ioOut] at e; subst e; exact ⟨rfl, fun k p hk => by simp at hk⟩
  | cons q H ih =>
    intro bs e
    obtain ⟨i, b0⟩ := q
    unfold ioOut at e
    split at e
    · rename_i b bs1 h1 h2
      obtain ⟨l1, l2⟩ := ih h2
      split at e
      · split at e
        · rename_i hv
          cases hp : AV.kpackL ks g b.els with
          | none => simp [hp] at e
          | some els =>
            simp only [hp] at e
            injection e with e; subst e
            refine ⟨by simp [l1], fun k p hk => ?_⟩
            cases k with
            | zero => simp at hk; subst hk; exact ⟨b, _, h1, rfl, .inr ⟨hv, els, hp, rfl⟩⟩
            | succ k => simpa using l2 k p (by simpa using hk)
        · rename_i hv
          injection e with e; subst e
          refine ⟨by simp [l1], fun k p hk => ?_⟩
          cases k with
          | zero => simp at hk; subst hk; exact ⟨b, b, h1, rfl, .inl ⟨by simpa using hv, rfl⟩⟩
          | succ k => simpa using l2 k p (by simpa using hk)
      · cases e
    · cases e
section
variable {P : Program} {np nt : Nat} {w0 w : World} {ι0 ι : Map} {σ : St} {a : Act}
def resRun (a : Act) : ResultVar → Sem Value
  | .tmp t => pure (a.tmps.getD t undef)
  | .cell b t => do loadVar t (← asAddr (a.tmps.getD b undef))
theorem resVar_spec (M : Mid np nt w0 ι0 w σ ι a) {x : ResultVar} {v : AV} (h : resVar P σ x = some v) : ∃ y, (resRun a x).run P w = .ok y w ∧ Rep w (Own ι) ι v y := by
  cases x with
  | tmp t => simp only [resVar] at h; injection h with h; subst h; exact ⟨_, rfl, M.rel.slots t⟩
  | cell b t =>
    simp only [resVar] at h
    unfold aload at h
    split at h
    · rename_i i cs hi hc
      split at h
      · rename_i hl
        injection h with h; subst h
        obtain ⟨bl, off, cell, hx, hh⟩ := cellsAt_spec M.rel.inv hc (M.rel.slots b)
        obtain ⟨y, hy, hr⟩ := loadVar_run hi hl.1 hl.2 hh
        refine ⟨y, ?_, hr⟩
        simp only [resRun, hx, asAddr, Sem.run_bind, Sem.run_pure, Result.andThen_ok]
        exact hy
      · cases h
    · cases h
theorem resVars_spec (M : Mid np nt w0 ι0 w σ ι a) : ∀ (l : List ResultVar) (vs : List AV), resVars P σ l = some vs → ∃ ys : List Value, (l.mapM (resRun a)).run P w = .ok ys w ∧ ys.length = vs.length ∧ ∀ i, i < vs.length → Rep w (Own ι) ι (vs.getD i .dead) (ys.getD i undef) := by
  intro l
  induction l with
  | nil => intro vs h; simp [resVars] at h; subst h; exact ⟨[], rfl, rfl, fun i hi => by simp at hi⟩
  | cons x l ih =>
    intro vs h
    unfold resVars at h
    split at h
    · rename_i v vs1 h1 h2
      injection h with h; subst h
      obtain ⟨y, hy, hr⟩ := resVar_spec M h1
      obtain ⟨ys, hys, hl, hrs⟩ := ih vs1 h2
      refine ⟨y :: ys, ?_, by simp [hl], fun i hi => ?_⟩
      · rw [List.mapM_cons, Sem.run_bind, hy, Result.andThen_ok, Sem.run_bind, hys, Result.andThen_ok]
        rfl
      · cases i with
        | zero => simpa using hr
        | succ i => simpa using hrs i (by simpa using hi)
    · cases h
theorem results_spec (M : Mid np nt w0 ι0 w σ ι a) {fn : Func} {vs : List AV} (h : resVars P σ fn.results.toList = some vs) : ∃ y, (results fn a.tmps).run P w = .ok y w ∧ Rep w (Own ι) ι (match (generalizing := false) vs with | [v] => v | vs => .tuple vs) y := by
  obtain ⟨ys, hys, hl, hr⟩ := resVars_spec M _ _ h
  refine ⟨if h : ys.toArray.size = 1 then ys.toArray[0] else .tuple ys.toArray, ?_, ?_⟩
  · have hR : results fn a.tmps = (fn.results.mapM (resRun a) >>= fun vs => (pure (if h : vs.size = 1 then vs[0] else .tuple vs) : Sem Value)) := by
      unfold results
      congr 1
    rw [hR, Sem.run_bind]
    have : (fn.results.mapM (resRun a)).run P w = .ok ys.toArray w := by
      rw [← Array.toArray_toList (xs := fn.results), List.mapM_toArray]
      show Sem.run P (List.mapM (resRun a) fn.results.toList >>= fun l => (pure l.toArray : Sem (Array Value))) w = _
      rw [Sem.run_bind, hys]; rfl
    rw [this]; rfl
  · match vs, ys, hl, hr with
    | [v], [y], _, hr => simpa using hr 0 (by simp)
    | [], [], _, _ => exact .tuple rfl fun i hi => by simp at hi
    | v :: v' :: vs, y :: y' :: ys, hl, hr =>
      have : ¬ (y :: y' :: ys).toArray.size = 1 := by simp
      rw [dif_neg this]
      exact .tuple (by simpa using hl.symm) fun i hi => by have := hr i hi; simpa using this
end
end Go.Proofs.YtndgpinhbffleaaGreat


namespace Go.Proofs.YtndgpinhbffleaaGreat
open Go Go.RowKit

section
variable {P : Program} {np nt : Nat} {w0 w : World} {ι0 ι : Map} {σ : St} {a : Act}
theorem hide_some : ∀ (l : List Id) (h : Heap) (id : Id) (b : Blk), hideH l h id = some b → h id = some b ∧ id ∉ l := hideH_some
theorem idsL_getD {l : List AV} {i : Nat} (h : AV.idsL l = []) : (l.getD i .dead).ids = [] := by
  by_cases hi : i < l.length
  · exact idsL_nil h i hi
  · simp [List.getElem?_eq_none (Nat.le_of_not_lt hi), AV.ids]
theorem brepN {O' : Nat → Prop} {O : Nat → Prop} {id : Id} {b : Blk} (h : BRep w O ι id b) (hO : ∀ k, O' k → O k) (hv : b.isVar = false ∨ AV.idsL b.els = []) : BRepN w O' (ι id) (ι.n id) b := by
  rcases h with ⟨h1, h2, h3⟩ | ⟨k, cs, h1, h2, h3, h4, h5, h6, h8, h7, h9⟩
  · exact .inl ⟨h1, h2, h3⟩
  · refine .inr ⟨k, cs, h1, h2, h3, h4, h5, h6, h8, fun i j hi hj => ?_, h9⟩
    have := (h7 i j hi hj).less (O' := ob O' (ι.n id) b) fun q hq => ⟨hO q hq.1, hq.2⟩
    rcases hv with hv | hv
    · rw [hv] at this
      exact this
    · exact this.noIds _ (idsL_getD ((cellsOf_ids _).trans (idsL_getD hv)))
theorem kpackL_length {ks : List Id} {g : Heap} : ∀ {l l' : List AV}, AV.kpackL ks g l = some l' → l'.length = l.length := by
  intro l
  induction l with
  | nil => intro l' e; simp [AV.kpackL] at e; simp [← e]
  | cons c cs ih =>
    intro l' e
    unfold AV.kpackL at e
    split at e
    · cases hq : AV.kpackL ks g cs with
      | none => simp [hq] at e
      | some q => simp [hq] at e; rw [← e]; simp [ih hq]
    · cases e
section
variable {O O' : Nat → Prop} {ι' : Map} {ks : List Id} {g : Heap}
mutual
theorem kpack_rep (hk : ∀ id ∈ ks, ι' id = ι id) (hg : ∀ i c, g i = some c → BRep w O ι i c ∧ ∀ k, Foot ι i k → ¬ O' k) (hO : ∀ k, O' k → O k) (O1 : Nat → Prop) (hO1 : ∀ k, O' k → O1 k) (v v' : AV) (x : Value) (e : AV.kpack ks g v = some v') (r : Rep w O1 ι v x) : Rep w O' ι' v' x := by
  have r0 := r
  cases r with
  | agg hl hr =>
    rename_i cs vs
    unfold AV.kpack at e
    cases hq : AV.kpackL ks g cs with
    | none => simp [hq] at e
    | some q =>
      simp [hq] at e; subst e
      exact .agg ((kpackL_length hq).trans hl) fun i hi => kpackL_rep hk hg hO O1 hO1 cs q hq i (by rw [kpackL_length hq] at hi; exact hi) _ (hr i (by rw [kpackL_length hq] at hi; exact hi))
  | tuple hl hr =>
    rename_i cs vs
    unfold AV.kpack at e
    cases hq : AV.kpackL ks g cs with
    | none => simp [hq] at e
    | some q =>
      simp [hq] at e; subst e
      exact .tuple ((kpackL_length hq).trans hl) fun i hi => kpackL_rep hk hg hO O1 hO1 cs q hq i (by rw [kpackL_length hq] at hi; exact hi) _ (hr i (by rw [kpackL_length hq] at hi; exact hi))
  | fn hl hr =>
    rename_i f cs vs
    unfold AV.kpack at e
    cases hq : AV.kpackL ks g cs with
    | none => simp [hq] at e
    | some q =>
      simp [hq] at e; subst e
      exact .fn ((kpackL_length hq).trans hl) fun i hi => kpackL_rep hk hg hO O1 hO1 cs q hq i (by rw [kpackL_length hq] at hi; exact hi) _ (hr i (by rw [kpackL_length hq] at hi; exact hi))
  | iface hr =>
    rename_i t v y
    unfold AV.kpack at e
    cases hq : AV.kpack ks g v with
    | none => simp [hq] at e
    | some q =>
      simp [hq] at e; subst e
      exact .iface (kpack_rep hk hg hO O1 hO1 v q y hq hr)
  | ref hι hs hcap hn =>
    rename_i id off len cap k sz m ty
    unfold AV.kpack at e
    split at e
    · rename_i hm
      injection e with e; subst e
      exact .ref (by rw [hk id (by simpa using hm)]; exact hι) hs hcap hn
    · exact (pack_rep (O := O) (ι := ι) (h := g) hg hO 3 O1 hO1 _ _ _ e r0).up
  | refE id off a =>
    unfold AV.kpack at e
    split at e
    · injection e with e; subst e; exact .refE _ _ _
    · exact (pack_rep (O := O) (ι := ι) (h := g) hg hO 3 O1 hO1 _ _ _ e r0).up
  | ptr hι =>
    rename_i id idx off k sz
    unfold AV.kpack at e
    split at e
    · rename_i hm
      injection e with e; subst e
      exact .ptr (by rw [hk id (by simpa using hm)]; exact hι)
    · exact (pack_rep (O := O) (ι := ι) (h := g) hg hO 3 O1 hO1 _ _ _ e r0).up
  | dead v => unfold AV.kpack at e; injection e with e; subst e; exact .dead _
  | int k m => unfold AV.kpack at e; injection e with e; subst e; exact .int _ _
  | bool b => unfold AV.kpack at e; injection e with e; subst e; exact .bool _
  | str hs => unfold AV.kpack at e; injection e with e; subst e; exact .str hs
  | nil a => unfold AV.kpack at e; injection e with e; subst e; exact .nil _
  | slE m a cap => unfold AV.kpack at e; injection e with e; subst e; exact .slE _ _ _
  | sl => unfold AV.kpack at e; injection e with e; subst e; exact ((r0.noIds noMap (by simp [AV.ids])).less hO1).up
  | rptr => unfold AV.kpack at e; injection e with e; subst e; exact ((r0.noIds noMap (by simp [AV.ids])).less hO1).up
  | nilfn => unfold AV.kpack at e; injection e with e; subst e; exact .nilfn
  | niliface => unfold AV.kpack at e; injection e with e; subst e; exact .niliface
  | nilptr => unfold AV.kpack at e; injection e with e; subst e; exact .nilptr
  termination_by SizeOf.sizeOf v
theorem kpackL_rep (hk : ∀ id ∈ ks, ι' id = ι id) (hg : ∀ i c, g i = some c → BRep w O ι i c ∧ ∀ k, Foot ι i k → ¬ O' k) (hO : ∀ k, O' k → O k) (O1 : Nat → Prop) (hO1 : ∀ k, O' k → O1 k) (l l' : List AV) (e : AV.kpackL ks g l = some l') (i : Nat) (hi : i < l.length) (x : Value) (r : Rep w O1 ι (l.getD i .dead) x) : Rep w O' ι' (l'.getD i .dead) x := by
  cases l with
  | nil => simp at hi
  | cons c cs =>
    unfold AV.kpackL at e
    cases hp : AV.kpack ks g c with
    | none => simp [hp] at e
    | some c' =>
      cases hq : AV.kpackL ks g cs with
      | none => simp [hp, hq] at e
      | some q =>
        simp [hp, hq] at e; subst e
        cases i with
        | zero => exact kpack_rep hk hg hO O1 hO1 c c' x hp (by simpa using r)
        | succ i => simpa using kpackL_rep hk hg hO O1 hO1 cs q hq i (by simpa using hi) x (by simpa using r)
  termination_by SizeOf.sizeOf l
end
end
theorem kpack_cells {ks : List Id} {g : Heap} {v v' : AV} (e : AV.kpack ks g v = some v') : AV.kpackL ks g (cellsOf v) = some (cellsOf v') := by
  have one : ∀ {u u' : AV}, AV.kpack ks g u = some u' → AV.kpackL ks g [u] = some [u'] := by
    intro u u' h
    unfold AV.kpackL
    rw [h]
    unfold AV.kpackL
    rfl
  have leafCells : ∀ {u : AV} {u' : AV}, (∀ cs, u ≠ .agg cs) → AV.pack g 3 u = some u' → cellsOf u' = [u'] := by
    intro u u' hu hp
    have h1 := pack_cells hp
    cases u' with
    | agg cs =>
      exfalso
      cases u with
      | agg cs => exact hu cs rfl
      | tuple cs => unfold AV.pack at hp; cases hq : AV.packL g 3 cs <;> simp [hq] at hp
      | fn f cs => unfold AV.pack at hp; cases hq : AV.packL g 3 cs <;> simp [hq] at hp
      | iface t v => unfold AV.pack at hp; cases hq : AV.pack g 3 v <;> simp [hq] at hp
      | ref id off len =>
        unfold AV.pack at hp
        cases hb : g id with
        | none => simp [hb] at hp
        | some b => simp only [hb] at hp; split at hp <;> simp at hp
      | ptr id idx off =>
        unfold AV.pack at hp
        cases hb : g id with
        | none => simp [hb] at hp
        | some b =>
          simp only [hb] at hp
          split at hp
          · cases hq : AV.packL g 2 ((cellsOf (b.els.getD idx .dead)).drop off) <;> simp [hq] at hp
          · simp at hp
      | _ => unfold AV.pack at hp; simp at hp
    | _ => rfl
  have e0 := e
  cases v with
  | agg cs =>
    unfold AV.kpack at e
    cases hq : AV.kpackL ks g cs with
    | none => simp [hq] at e
    | some q => simp [hq] at e; subst e; exact hq
  | tuple cs =>
    unfold AV.kpack at e
    cases hq : AV.kpackL ks g cs with
    | none => simp [hq] at e
    | some q => simp [hq] at e; subst e; exact one e0
  | fn f cs =>
    unfold AV.kpack at e
    cases hq : AV.kpackL ks g cs with
    | none => simp [hq] at e
    | some q => simp [hq] at e; subst e; exact one e0
  | iface t v =>
    unfold AV.kpack at e
    cases hq : AV.kpack ks g v with
    | none => simp [hq] at e
    | some q => simp [hq] at e; subst e; exact one e0
  | ref id off len =>
    unfold AV.kpack at e
    split at e
    · injection e with e; subst e; exact one e0
    · rw [leafCells (by simp) e]; exact one e0
  | ptr id idx off =>
    unfold AV.kpack at e
    split at e
    · injection e with e; subst e; exact one e0
    · rw [leafCells (by simp) e]; exact one e0
  | _ => unfold AV.kpack at e; injection e with e; subst e; exact one e0
theorem kpackL_at {ks : List Id} {g : Heap} : ∀ {l l' : List AV} {n : Nat}, AV.kpackL ks g l = some l' → n < l.length → AV.kpack ks g (l.getD n .dead) = some (l'.getD n .dead) := by
  intro l
  induction l with
  | nil => intro l' n _ h; simp at h
  | cons c cs ih =>
    intro l' n e h
    unfold AV.kpackL at e
    cases hp : AV.kpack ks g c with
    | none => simp [hp] at e
    | some c' =>
      cases hq : AV.kpackL ks g cs with
      | none => simp [hp, hq] at e
      | some q =>
        simp [hp, hq] at e; subst e
        cases n with
        | zero => simpa using hp
        | succ n => simpa using ih hq (by simpa using h)
theorem brep_var {O O' : Nat → Prop} {ι' : Map} {ks : List Id} {g : Heap} {id : Id} {b : Blk} {els : List AV} (h : BRep w O ι id b) (hv : b.isVar = true) (hp : AV.kpackL ks g b.els = some els) (hid : ι' id = ι id) (hidn : ι'.n id = ι.n id) (hk : ∀ id ∈ ks, ι' id = ι id) (hg : ∀ i c, g i = some c → BRep w O ι i c ∧ ∀ k, Foot ι i k → ¬ O' k) (hO : ∀ k, O' k → O k) : BRep w O' ι' id { b with els := els } := by
  rcases h with ⟨h1, h2, h3⟩ | ⟨k, cs, h1, h2, h3, h4, h5, h6, h8, h7, _⟩
  · rw [hv] at h2; cases h2
  · have hlen := kpackL_length hp
    refine .inr ⟨k, cs, hid.trans h1, h2, h3, fun _ => by simp only; rw [hlen]; exact h4 hv, fun n hn => ?_, by simp only; rw [hlen]; exact h6, fun o ho => h8 o (by simp only at ho; rw [hlen] at ho; exact ho), fun n m hn hm => ?_, .var hv⟩
    · simp only at hn ⊢
      rw [hlen] at hn
      rw [kpackL_length (kpack_cells (kpackL_at hp hn))]; exact h5 n hn
    · simp only at hn hm ⊢
      rw [hlen] at hn
      have h9 := h7 n m hn hm
      rw [hv] at h9 ⊢
      rw [hidn]
      exact (kpackL_rep (O' := ob O' (ι.n id) b) hk (fun i c hc => ⟨(hg i c hc).1, fun k hf ho => (hg i c hc).2 k hf ho.1⟩) (fun k h => hO k h.1) (ob O (ι.n id) b) (fun k h => ⟨hO k h.1, h.2⟩) _ _ (kpack_cells (kpackL_at hp hn)) m (by rw [h5 n hn]; exact hm) _ h9)
theorem answer_sound (M : Mid np nt w0 ι0 w σ ι a) {fn : Func} {H : List (Id × Blk)} {r : Res} (h : answer P fn H σ = some r) (hin : ∀ id k, Foot ι0 id k → ph id = true ∨ id ∈ keys H) (hreal : ∀ id, id ∈ keys H → ph id = false) (hnp : ∀ id, id ∈ keys H → id.headD 0 < np) :
    ∃ rv ιo, (results fn a.tmps).run P w = .ok rv w ∧ Left1 ι0 H r w0 w rv ιo := by
  unfold answer at h
  split at h
  · rename_i vs hvs
    split at h
    · rename_i v ids hex
      split at h
      · rename_i own io how hio
        split at h
        · cases h
        · rename_i hno
          injection h with h; subst h
          obtain ⟨rv, hrv, hr⟩ := results_spec M hvs
          obtain ⟨o1, o2⟩ := blksOf_spec how
          obtain ⟨i1, i2⟩ := ioOut_spec hio
          have hHn : ∀ i ∈ ids, i ∉ keys H := by
            intro i hi hk
            refine hno ?_
            rw [List.any_eq_true]
            exact ⟨i, hi, by simpa [keys] using hk⟩
          have hsome : ∀ id, id ∈ keys H → ∃ b, σ.heap id = some b := by
            intro id hid
            obtain ⟨p, hp, rfl⟩ := List.mem_map.1 hid
            obtain ⟨k, hk⟩ := List.getElem?_of_mem hp
            obtain ⟨b, b', h1, _⟩ := i2 k p hk
            exact ⟨b, h1⟩
          have hlent : ∀ id, id ∈ keys H → ι id = ι0 id ∧ ι.n id = ι0.n id := by
            intro id hid
            obtain ⟨b, hb⟩ := hsome id hid
            exact M.rel.lent id (hnp id hid) (by rw [hb]; rfl)
          have hnone : ∀ id, id ∈ keys H → ownIx id = none := by
            intro id hid
            cases ho : ownIx id with
            | none => rfl
            | some k =>
              have h1 := ownIx_some ho
              have h2 := hreal id hid
              rw [h1] at h2
              simp [ph] at h2
          obtain ⟨_, hnd, hval⟩ := expo_spec (w := w) (O := Own ι) (ι := ι) (τ := jn ι0 (omap ι ids)) (fun id hid => by simp only [jn, hnone id hid]; exact (hlent id hid).1.symm) _ _ _ _ hex
          have hnd := hnd .nil
          have hBoth : ∀ k, Both ι0 (omap ι ids) k → Own ι k := by
            rintro k (⟨id, h⟩ | ⟨x, h⟩)
            · rcases hin id _ h with h1 | h1
              · exact ⟨id, h.of (M.rel.phs id h1).1 (M.rel.phs id h1).2⟩
              · exact ⟨id, h.of (hlent id h1).1 (hlent id h1).2⟩
            · obtain ⟨n, i, _, _, h3⟩ := omap_inv h
              exact ⟨i, h3⟩
          have hhid : ∀ i c, hideH (H.map (·.1) ++ ids) σ.heap i = some c → BRep w (Own ι) ι i c ∧ ∀ k, Foot ι i k → ¬ Both ι0 (omap ι ids) k := by
            intro i c hc
            obtain ⟨h1, h2⟩ := hide_some _ _ _ _ hc
            rw [List.mem_append, not_or] at h2
            refine ⟨M.rel.inv.blk i c h1, fun k hk hb => ?_⟩
            rcases hb with ⟨id, h⟩ | ⟨x, h⟩
            · rcases hin id _ h with h3 | h3
              · have h := h.of (M.rel.phs id h3).1 (M.rel.phs id h3).2
                have := M.rel.inv.inj _ _ _ hk h
                subst this
                have := M.rel.inv.real _ _ h1
                rw [h3] at this; cases this
              · have h := h.of (hlent id h3).1 (hlent id h3).2
                have := M.rel.inv.inj _ _ _ hk h
                subst this
                exact h2.1 h3
            · obtain ⟨n, j, _, h4, h5⟩ := omap_inv h
              have := M.rel.inv.inj _ _ _ hk h5
              subst this
              exact h2.2 (List.mem_of_getElem? h4)
          refine ⟨rv, omap ι ids, hrv, ?_, by simpa using i1, fun k hk => ?_, fun k hk => ?_, fun id id' k h1 h2 => ?_, fun id k s hk hn => ?_, fun id k hk => ?_, (hval ids rv ⟨[], by simp⟩ (fun k i hki => by show omap ι ids [k, 0, 0, 0] = ι i; simp [omap, ownIx, hki]) hr).less hBoth⟩
          · refine M.ext.mono fun k _ ⟨id, h1, h2⟩ => ?_
            rcases hin id _ h2 with h3 | h3
            · rw [h1] at h3; cases h3
            · exact ⟨id, h3, h2⟩
          · have hk' : H[k]? = some H[k] := by simp [hk]
            obtain ⟨b, b', h1, h2, h3⟩ := i2 k _ hk'
            have e1 : (H.map (·.1)).getD k [] = H[k].1 := by simp [hk]
            have e2 : io.getD k default = b' := by simp [h2]
            simp only [e1, e2]
            have hmem : H[k].1 ∈ keys H := List.mem_map.2 ⟨_, List.getElem_mem hk, rfl⟩
            have hidm := hlent _ hmem
            rcases h3 with ⟨hv, rfl⟩ | ⟨hv, els, hp, rfl⟩
            · rcases M.rel.inv.blk _ _ h1 with ⟨g1, g2, g3⟩ | ⟨k', cs, g1, g2, g3, g4, g5, g6, g8, g7, g9⟩
              · exact .inl ⟨g1, g2, hidm.1.symm.trans g3⟩
              · refine .inr ⟨k', cs, hidm.1.symm.trans g1, g2, g3, g4, g5, g6, g8, fun i j hi hj => ?_, by rw [← hidm.2]; exact g9⟩
                have := g7 i j hi hj
                rw [hv] at this ⊢
                rw [← hidm.2]
                exact this.less fun q hq => ⟨hBoth q hq.1, hq.2⟩
            · exact brep_var (M.rel.inv.blk _ _ h1) hv hp hidm.1.symm hidm.2.symm (fun id hid => (hlent id hid).1.symm) hhid hBoth
          · simp only at hk
            have hki : k < ids.length := by omega
            obtain ⟨b, h1, h2, h3⟩ := o2 k ids[k] (by simp [hki])
            have e1 : own.getD k default = b := by simp [h3]
            have e2 : omap ι ids [k, 0, 0, 0] = ι ids[k] := by simp [omap, ownIx, hki]
            have e3 : (omap ι ids).n [k, 0, 0, 0] = ι.n ids[k] := by
              funext c
              simp [omap, ownIx, hki]
            simp only [e1, e2, e3]
            exact brepN (M.rel.inv.blk _ _ h1) hBoth h2
          · obtain ⟨n, i, rfl, h4, h5⟩ := omap_inv h1
            obtain ⟨n', i', rfl, h4', h5'⟩ := omap_inv h2
            have := M.rel.inv.inj _ _ _ h5 h5'
            subst this
            have hnn : n = n' := (List.getElem?_inj (List.getElem?_eq_some_iff.1 h4).1 hnd).1 (h4.trans h4'.symm)
            rw [hnn]
          · obtain ⟨n, i, e1, h4, h5⟩ := omap_name hk
            obtain ⟨n', i', e2, h4', h5'⟩ := omap_nest hn
            rw [e1] at e2; injection e2 with e2; subst e2
            rw [h4] at h4'; injection h4' with h4'; subst h4'
            exact M.rel.inv.sep _ _ _ h5 h5'
          · obtain ⟨n, i, rfl, h4, h5⟩ := omap_inv hk
            obtain ⟨b, h6, _, _⟩ := o2 n i h4
            have hr := M.rel.inv.real i b h6
            refine ⟨?_, M.rel.inv.live _ _ h5, n, by simp only; have := (List.getElem?_eq_some_iff.1 h4).1; omega, rfl⟩
            apply Classical.byContradiction
            intro hlt
            rcases hin i k (M.old i k h5 (by omega)) with h9 | h9
            · rw [hr] at h9; cases h9
            · exact hHn _ (List.mem_of_getElem? h4) h9
      · cases h
    · cases h
  · cases h
end
end Go.Proofs.YtndgpinhbffleaaGreat


namespace Go.Proofs.YtndgpinhbffleaaGreat
open Go Go.RowKit

theorem slotsOf_at : ∀ (l : List AV) (k s : Nat), slotsOf k l s = if k ≤ s ∧ s < k + l.length then l.getD (s - k) .dead else .dead := by
  intro l
  induction l with
  | nil => intro k s; rw [if_neg (by simp only [List.length_nil]; omega)]; rfl
  | cons c cs ih =>
    intro k s
    simp only [slotsOf, U, List.length_cons]
    by_cases h : s = k
    · subst h; rw [if_pos rfl, if_pos (by omega)]; simp
    · rw [if_neg h, ih]
      by_cases h2 : k + 1 ≤ s ∧ s < k + 1 + cs.length
      · rw [if_pos h2, if_pos (by omega)]
        obtain ⟨q, hq⟩ : ∃ q, s - k = q + 1 := ⟨s - k - 1, by omega⟩
        rw [hq, show s - (k + 1) = q from by omega]; simp
      · rw [if_neg h2, if_neg (by omega)]
theorem heapOf_mem : ∀ {l : List (Id × Blk)} {x : Id}, x ∈ keys l → ∃ b, heapOf l x = some b := by
  intro l
  induction l with
  | nil => intro x h; cases h
  | cons y l ih =>
    intro x h
    obtain ⟨i, c⟩ := y
    unfold heapOf HU
    by_cases hx : x = i
    · exact ⟨c, by simp [hx]⟩
    · simp only [keys, List.map_cons, List.mem_cons] at h
      obtain ⟨b, hb⟩ := ih (h.resolve_left hx)
      exact ⟨b, by simp [hx, hb]⟩
theorem codeOK_spec {an : Ann} {fn : Func} {c : Code} (h : codeOK an fn c = true) : slotsIn fn.ntmps c = true ∧ drawsOK an c = true ∧ fn.name ≠ "runtime.NumGoroutine" := by
  unfold codeOK at h
  simp only [Bool.and_eq_true, bne_iff_ne, ne_eq] at h
  exact ⟨h.1.1, h.1.2, h.2⟩
theorem execFn_sound {C : Ctx} {O : Oracle} (hm : C.P.follows .mixedOrders = true) {f : FuncId} {args : List AV} {H : List (Id × Blk)} {r : Res} (hO : ∀ g avs K s, O g avs K = some s → Sound C.P g avs K s) (h : execFn C O f args H = some r) : Sound C.P f args H r := by
  unfold execFn at h
  split at h
  · cases h
  · rename_i h0
    simp only [Bool.or_eq_true, not_or, Bool.not_eq_true, bne_eq_false_iff_eq] at h0
    obtain ⟨_, hnp⟩ := h0
    split at h
    · rename_i fn hf
      split at h
      · rename_i c hb
        split at h
        · cases h
        · rename_i hc
          have hc : codeOK (C.A f) fn c = true := by simpa using hc
          obtain ⟨c1, c2, c3⟩ := codeOK_spec hc
          refine ⟨⟨fn, hf, c3, by rw [hb]; rfl⟩, fun w ι vals hlen I hargs hin hreal hnd hhead => ?_⟩
          have hOps : OpsOK C.P O C.A (C.A f) := aop_sound hO
          have M : Mid (C.A f).np fn.ntmps w ι w ⟨slotsOf 0 args, heapOf H⟩ ι { tmps := vals ++ Array.replicate (fn.ntmps - vals.size) undef, defers := [] } := by
            refine ⟨⟨by simp; omega, I, fun s => ?_, fun id p hp => ?_, fun _ _ => ⟨rfl, rfl⟩, fun _ _ _ => ⟨rfl, rfl⟩, rfl⟩, Ext.refl _ _, fun _ _ h _ => h, fun id k hp => (hin id k hp).imp (fun h => h) fun h => by rw [hnp]; exact hhead id h⟩
            · simp only [slotsOf_at, Nat.zero_add, Nat.sub_zero]
              split
              · rename_i hs
                have hs' : s < vals.size := by omega
                have : (vals ++ Array.replicate (fn.ntmps - vals.size) undef).getD s undef = vals.getD s undef := by
                  simp only [Array.getD_eq_getD_getElem?]
                  rw [Array.getElem?_append_left hs']
                rw [this]; exact hargs s hs.2
              · exact .dead _
            · rcases hin id p hp with h1 | h1
              · exact .inl h1
              · obtain ⟨b, hb⟩ := heapOf_mem h1
                right; simp only [hb]; rfl
          refine calls_of_wp hf hb ?_
          have fin : ∀ e σ, (e = Ex.normal ∨ e = Ex.ret) → answer C.P fn H σ = some r → Comes1 (C.A f).np fn.ntmps w ι (bodyPost C.P fn fun e w' => ∃ rv ιo, e = .returned rv ∧ Left1 ι H r w w' rv ιo) e σ := by
            intro e σ he ha w' ι' a' M'
            obtain ⟨rv, ιo, hr, hL⟩ := answer_sound M' ha hin hreal (fun id hid => by rw [hnp]; exact hhead id hid)
            rcases he with rfl | rfl
            · exact ⟨M'.rel.defers, rv, hr, rv, ιo, rfl, hL⟩
            · exact ⟨M'.rel.defers, rv, hr, rv, ιo, rfl, hL⟩
          split at h
          · rename_i σ hx
            exact exec_sound hOps c 0 _ _ σ hx c1 (draws_sound hOps hm c c2) w ι _ M _ (fin _ σ (.inl rfl) h)
          · rename_i σ hx
            exact exec_sound hOps c 0 _ _ σ hx c1 (draws_sound hOps hm c c2) w ι _ M _ (fin _ σ (.inr rfl) h)
          · cases h
      · cases h
    · cases h
theorem run_sound {C : Ctx} (hm : C.P.follows .mixedOrders = true) (hX : ∀ f args H r, (C.A f).ext = true → C.X f args H = some r → Sound C.P f args H r) {f : FuncId} {args : List AV} {H : List (Id × Blk)} {r : Res} (h : Run C f args H r) : Sound C.P f args H r := by
  induction h with
  | ext hx e => exact hX _ _ _ _ hx e
  | body O hO e ih => exact execFn_sound hm ih e
/-- What the reading tells, the machine does. -/
theorem E_sound {C : Ctx} (hm : C.P.follows .mixedOrders = true) (hX : ∀ f args H r, (C.A f).ext = true → C.X f args H = some r → Sound C.P f args H r) {f : FuncId} {args : List AV} {H : List (Id × Blk)} {r : Res} (h : E C f args H = some r) : Sound C.P f args H r := run_sound hm hX (run_E h)
theorem noFoot {id : Id} {k : Nat} (h : Foot noMap id k) : False := by
  rcases h with ⟨s, h⟩ | h <;> cases h
/-- A function that is lent nothing and answers a plain truth. -/
theorem E_calls {C : Ctx} (hm : C.P.follows .mixedOrders = true) (hX : ∀ f args H r, (C.A f).ext = true → C.X f args H = some r → Sound C.P f args H r) {f : FuncId} {args : List AV} {b : Bool} {io own : List Blk} (h : E C f args [] = some { val := .bool b, io := io, own := own }) {w : World} {vals : Array Value} (hl : args.length = vals.size)
    (hargs : ∀ i, i < args.length → Rep w (fun _ => False) noMap (args.getD i .dead) (vals.getD i undef)) : Calls C.P f vals w fun e w' => e = .returned (.bool b) ∧ Ext (fun _ => False) w w' := by
  have hO : ∀ k, Own noMap k → False := by rintro k ⟨id, ⟨s, h⟩ | h⟩ <;> cases h
  have hI : Inv w (heapOf []) noMap := ⟨(fun id b hb => by cases hb), (fun id id' k h => (hO k ⟨id, h⟩).elim), (fun id k s h => by cases h), (fun id k h => (hO k ⟨id, h⟩).elim), (fun id b hb => by cases hb)⟩
  refine ((E_sound hm hX h).2 w noMap vals hl hI (fun i hi => (hargs i hi).less hO) (fun id k h => (hO k ⟨id, h⟩).elim) (fun id h => by cases h) List.nodup_nil (fun id h => by cases h)).mono fun e w' hh => ?_
  obtain ⟨rv, ιo, rfl, L⟩ := hh
  have hv := L.val
  generalize hrv : rv = v at hv
  cases hv
  exact ⟨rfl, L.ext.mono fun k _ ⟨id, h, _⟩ => by cases h⟩
end Go.Proofs.YtndgpinhbffleaaGreat

