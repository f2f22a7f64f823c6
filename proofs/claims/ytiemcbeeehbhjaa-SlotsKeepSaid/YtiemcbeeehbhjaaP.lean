/- A region that draws its order, walked by a plan: which operation is taken next, and which is carried out next; that the plan serves every order is asked of the plan once. -/
import Derived.Deep.RegionHeld3
import Derived.WalkKit
namespace Go.Proofs.Ytiemcbeeehbhjaa
open Go

/-- Does a plan serve every order? (i, true): number i is taken first; (i, false): number i alone may come up. -/
def planOK (md : Region.Mode) (ops : Array Oper) : List (Nat × Bool) → Array Bool → Bool
  | [], l => (Region.ready md ops l).isEmpty
  | (i, true) :: r, l => Region.free md ops l i && (Region.ready md ops l).contains i && planOK md ops r (l.setIfInBounds i true)
  | (i, false) :: r, l => decide (Region.ready md ops l = [i]) && planOK md ops r (l.setIfInBounds i true)

section
variable {P : Program} {ops : Array Oper} {Q : Exit → Act → World → Prop} {S : World → Prop}

/-- The walk by a plan. -/
def wpPlan (P : Program) (ops : Array Oper) (Q : Exit → Act → World → Prop) (S : World → Prop) : List (Nat × Bool) → Act → World → Prop
  | [], a, w => Q .normal a w
  | (i, true) :: r, a, w => ∃ o v, ops[i]? = some o ∧ YieldsIf P ops S o v a ∧ wpPlan P ops Q S r (a.put o.dst v) w
  | (i, false) :: r, a, w => wpOp P ops Q i (fun a' w' => S w' ∧ wpPlan P ops Q S r a' w') a w

theorem wpOp_mono' {i : Nat} {K K' : Act → World → Prop} {a : Act} {w : World} (h : wpOp P ops Q i K a w) (hk : ∀ a w, K a w → K' a w) : wpOp P ops Q i K' a w := by
  unfold wpOp at *
  split
  · rename_i ho; simp only [ho] at h; exact hk _ _ h
  · rename_i o ho
    simp only [ho] at h
    split
    · rename_i hw
      simp only [hw, if_true] at h
      rcases h with h | h
      · left
        unfold Oper.wp at *
        generalize (execOp a.eval o).run P w = r at *
        cases r with
        | ok n w' =>
          cases n <;> simp only [Oper.upon] at h ⊢ <;> first | exact hk _ _ h | (exact h.elim) | skip
          case enter f args =>
            refine h.mono fun e w'' he => ?_
            cases e <;> first | exact hk _ _ he | exact he
          case row row args => exact h.mono fun v w'' he => hk _ _ he
        | halt x w' =>
          cases x <;> simp only [Oper.upon] at h ⊢ <;> exact h
      · exact .inr h
    · rename_i hw
      simp only [hw] at h
      exact hk _ _ h

theorem wpPlan_anyH (hs : Region.noSelect ops = true) (hQ : ∀ c a d v w, Q (.panic c) (Act.put a d v) w → Q (.panic c) a w) {md : Region.Mode} :
    ∀ (plan : List (Nat × Bool)) (listed : Array Bool) (a : Act) (w : World), planOK md ops plan listed = true → S w → wpPlan P ops Q S plan a w → wpAnyH P md ops Q S plan.length listed a w
  | [], listed, a, w, hp, _, h => wpAnyH_done (by simpa [planOK] using hp) h _
  | (i, true) :: r, listed, a, w, hp, hS, h => by
    obtain ⟨o, v, ho, hy, h⟩ := h
    simp only [planOK, Bool.and_eq_true] at hp
    exact wpAnyH_take ho hs hp.1.1 hp.1.2 (fun c a w => hQ c a o.dst v w) hy hS (wpPlan_anyH hs hQ r _ _ _ hp.2 hS h)
  | (i, false) :: r, listed, a, w, hp, hS, h => by
    simp only [planOK, Bool.and_eq_true, decide_eq_true_eq] at hp
    refine wpAnyH_all hp.1 (by simp) ?_
    intro j hj
    obtain rfl : j = i := by simpa using hj
    exact wpOp_mono' h (fun a' w' h' => ⟨h'.1, wpPlan_anyH hs hQ r _ _ _ hp.2 h'.1 h'.2⟩)

/-- A region that draws its order, by a plan. -/
theorem wp_region_plan {id : Nat} {a : Act} {w : World} (S : World → Prop) (plan : List (Nat × Bool)) (hm : P.follows .mixedOrders = true) (hs : Region.noSelect ops = true)
    (hp : planOK .any ops plan (Array.replicate ops.size false) = true) (hl : plan.length = ops.size) (hQ : ∀ c a d v w, Q (.panic c) (Act.put a d v) w → Q (.panic c) a w) (hS : S w.drew)
    (h : wpPlan P ops Q S plan a w.drew) : (Code.region id ops true).wp P Q a w := by
  refine wp_region_held (S := S) hm ?_
  have := wpPlan_anyH hs hQ plan _ a _ hp hS h
  rw [hl] at this
  exact this

theorem wpPlan_yes {i : Nat} {o : Oper} {v : Value} {r : List (Nat × Bool)} {a : Act} {w : World} (ho : ops[i]? = some o) (hw : Region.wanted o (yielded ops a.tmps) = true)
    (hv : ∀ w, S w → (execOp a.eval o).run P w = .ok (.value v) w) (h : wpPlan P ops Q S r (a.put o.dst v) w) : wpPlan P ops Q S ((i, true) :: r) a w := ⟨o, v, ho, .inl ⟨hw, hv⟩, h⟩
theorem wpPlan_no {i : Nat} {o : Oper} {r : List (Nat × Bool)} {a : Act} {w : World} (ho : ops[i]? = some o) (hw : Region.wanted o (yielded ops a.tmps) = false)
    (h : wpPlan P ops Q S r (a.put o.dst undef) w) : wpPlan P ops Q S ((i, true) :: r) a w := ⟨o, undef, ho, .inr ⟨hw, rfl⟩, h⟩
theorem wpPlan_act {i : Nat} {o : Oper} {r : List (Nat × Bool)} {a : Act} {w : World} (ho : ops[i]? = some o) (hw : Region.wanted o (yielded ops a.tmps) = true)
    (h : ∀ K : Act → World → Prop, Shut (∀ a w, S w → wpPlan P ops Q S r a w → K a w) → o.wp P a w K Q) : wpPlan P ops Q S ((i, false) :: r) a w := by
  refine wpOp_step ho (fun K' hK => ?_)
  rw [if_pos hw]
  exact h K' (fun a w hS hW => hK a w ⟨hS, hW⟩)
end
end Go.Proofs.Ytiemcbeeehbhjaa
