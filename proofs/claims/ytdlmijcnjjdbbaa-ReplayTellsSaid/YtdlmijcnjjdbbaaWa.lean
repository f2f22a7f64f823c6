/- Words for all texts of this seat: regions that draw their order, by a plan; data that lies flat; worlds that grow. Conditions: each lemma's own. -/
import Derived.Deep.RegionHeld3
import Derived.Deep.DeepCutAuto
import Derived.Deep.QuietTactic
import Derived.BigQuiet
import Derived.StillTailTactics
import Derived.OpenShut
import Derived.Deep.Slices
import Derived.Deep.Fields
import Derived.WalkKit
import Derived.Handy
import Derived.Lib.Hide
import Derived.RangeFuncOwn
import Derived.Maps.AppendAt
namespace Go.Proofs.Ytdlmijcnjjdbbaa
open Go Go.RowKit Go.Deep

/-- Does a plan serve every order? (i, true): number i is taken first; (i, false): number i alone may come up. -/
def planOK (md : Region.Mode) (ops : Array Oper) : List (Nat × Bool) → Array Bool → Bool
  | [], l => (Region.ready md ops l).isEmpty
  | (i, true) :: r, l => Region.free md ops l i && (Region.ready md ops l).contains i && planOK md ops r (l.setIfInBounds i true)
  | (i, false) :: r, l => decide (Region.ready md ops l = [i]) && planOK md ops r (l.setIfInBounds i true)

section
variable {P : Program} {ops : Array Oper} {Q : Exit → Act → World → Prop} {S : World → Prop}

/-- The walk by a plan. -/
def wpPlan (P : Program) (ops : Array Oper) (Q : Exit → Act → World → Prop) (S : World → Prop) : List (Nat × Bool) → Act → World → Prop
  | [], a, w => Q .normal a w
  | (i, true) :: r, a, w => ∃ o v, ops[i]? = some o ∧ YieldsIf P ops S o v a ∧ wpPlan P ops Q S r (a.put o.dst v) w
  | (i, false) :: r, a, w => wpOp P ops Q i (fun a' w' => S w' ∧ wpPlan P ops Q S r a' w') a w

theorem wpOp_mono' {i : Nat} {K K' : Act → World → Prop} {a : Act} {w : World} (h : wpOp P ops Q i K a w) (hk : ∀ a w, K a w → K' a w) : wpOp P ops Q i K' a w := by
  unfold wpOp at *
  split
  · rename_i ho; simp only [ho] at h; exact hk _ _ h
  · rename_i o ho
    simp only [ho] at h
    split
    · rename_i hw
      simp only [hw, if_true] at h
      rcases h with h | h
      · left
        unfold Oper.wp at *
        generalize (execOp a.eval o).run P w = r at *
        cases r with
        | ok n w' =>
          cases n <;> simp only [Oper.upon] at h ⊢ <;> first | exact hk _ _ h | (exact h.elim) | skip
          case enter f args =>
            refine h.mono fun e w'' he => ?_
            cases e <;> first | exact hk _ _ he | exact he
          case row row args => exact h.mono fun v w'' he => hk _ _ he
        | halt x w' =>
          cases x <;> simp only [Oper.upon] at h ⊢ <;> exact h
      · exact .inr h
    · rename_i hw
      simp only [hw] at h
      exact hk _ _ h

theorem wpPlan_anyH (hs : Region.noSelect ops = true) (hQ : ∀ c a d v w, Q (.panic c) (Act.put a d v) w → Q (.panic c) a w) {md : Region.Mode} :
    ∀ (plan : List (Nat × Bool)) (listed : Array Bool) (a : Act) (w : World), planOK md ops plan listed = true → S w → wpPlan P ops Q S plan a w → wpAnyH P md ops Q S plan.length listed a w
  | [], listed, a, w, hp, _, h => wpAnyH_done (by simpa [planOK] using hp) h _
  | (i, true) :: r, listed, a, w, hp, hS, h => by
    obtain ⟨o, v, ho, hy, h⟩ := h
    simp only [planOK, Bool.and_eq_true] at hp
    exact wpAnyH_take ho hs hp.1.1 hp.1.2 (fun c a w => hQ c a o.dst v w) hy hS (wpPlan_anyH hs hQ r _ _ _ hp.2 hS h)
  | (i, false) :: r, listed, a, w, hp, hS, h => by
    simp only [planOK, Bool.and_eq_true, decide_eq_true_eq] at hp
    refine wpAnyH_all hp.1 (by simp) ?_
    intro j hj
    obtain rfl : j = i := by simpa using hj
    exact wpOp_mono' h (fun a' w' h' => ⟨h'.1, wpPlan_anyH hs hQ r _ _ _ hp.2 h'.1 h'.2⟩)

/-- A region that draws its order, by a plan. -/
theorem wp_region_plan {id : Nat} {a : Act} {w : World} (S : World → Prop) (plan : List (Nat × Bool)) (hm : P.follows .mixedOrders = true) (hs : Region.noSelect ops = true)
    (hp : planOK .any ops plan (Array.replicate ops.size false) = true) (hl : plan.length = ops.size) (hQ : ∀ c a d v w, Q (.panic c) (Act.put a d v) w → Q (.panic c) a w) (hS : S w.drew)
    (h : wpPlan P ops Q S plan a w.drew) : (Code.region id ops true).wp P Q a w := by
  refine wp_region_held (S := S) hm ?_
  have := wpPlan_anyH hs hQ plan _ a _ hp hS h
  rw [hl] at this
  exact this

theorem wpPlan_yes {i : Nat} {o : Oper} {v : Value} {r : List (Nat × Bool)} {a : Act} {w : World} (ho : ops[i]? = some o) (hw : Region.wanted o (yielded ops a.tmps) = true)
    (hv : ∀ w, S w → (execOp a.eval o).run P w = .ok (.value v) w) (h : wpPlan P ops Q S r (a.put o.dst v) w) : wpPlan P ops Q S ((i, true) :: r) a w := ⟨o, v, ho, .inl ⟨hw, hv⟩, h⟩
theorem wpPlan_no {i : Nat} {o : Oper} {r : List (Nat × Bool)} {a : Act} {w : World} (ho : ops[i]? = some o) (hw : Region.wanted o (yielded ops a.tmps) = false)
    (h : wpPlan P ops Q S r (a.put o.dst undef) w) : wpPlan P ops Q S ((i, true) :: r) a w := ⟨o, undef, ho, .inr ⟨hw, rfl⟩, h⟩
theorem wpPlan_act {i : Nat} {o : Oper} {r : List (Nat × Bool)} {a : Act} {w : World} (ho : ops[i]? = some o) (hw : Region.wanted o (yielded ops a.tmps) = true)
    (h : ∀ K : Act → World → Prop, Shut (∀ a w, S w → wpPlan P ops Q S r a w → K a w) → o.wp P a w K Q) : wpPlan P ops Q S ((i, false) :: r) a w := by
  refine wpOp_step ho (fun K' hK => ?_)
  rw [if_pos hw]
  exact h K' (fun a w hS hW => hK a w ⟨hS, hW⟩)
end

mutual
/-- The kinds of a type's cells, where all are integers. -/
def flat (P : Program) : Nat → TypeId → Option (List IntKind)
  | 0, _ => none
  | d + 1, t =>
    match P.underlying t with
    | some (.int k) => some [k]
    | some (.array n e) => (flat P d e).bind fun ks => if P.cellsOf e = ks.length ∧ P.cellsOf t = n * ks.length then some (List.replicate n ks).flatten else none
    | some (.struct fs) => (flatL P d fs.toList 0).bind fun ks => if P.cellsOf t = ks.length then some ks else none
    | _ => none
def flatL (P : Program) : Nat → List Field → Nat → Option (List IntKind)
  | _, [], _ => some []
  | 0, _ :: _, _ => none
  | d + 1, f :: r, o => (flat P d f.type).bind fun ks => if f.offset = o ∧ P.cellsOf f.type = ks.length then (flatL P d r (o + ks.length)).map (ks ++ ·) else none
end

section
variable {H : Type} {enc : TypeId × Value → H} {P : Program} {w : World} {base : Nat} {spare : Nat → Bool} {held : Bool}

/-- Cells that are integers of given kinds. -/
def Flat (cs : List Value) (o : Nat) (ks : List IntKind) : Prop := ∀ j k, ks[j]? = some k → ∃ z, cs[o + j]? = some (.int k z) ∧ (Lit.int k z).wf = true

theorem Flat.nil {cs : List Value} {o : Nat} : Flat cs o [] := fun _ _ h => by simp at h
theorem Flat.append {cs : List Value} {o : Nat} {ks ls : List IntKind} (h : Flat cs o ks) (h' : Flat cs (o + ks.length) ls) : Flat cs o (ks ++ ls) := by
  intro j k hj
  by_cases hlt : j < ks.length
  · rw [List.getElem?_append_left hlt] at hj; exact h j k hj
  · rw [List.getElem?_append_right (by omega)] at hj
    have := h' _ k hj
    rwa [show o + ks.length + (j - ks.length) = o + j by omega] at this
theorem Flat.of_part {cs : List Value} {o n : Nat} {ks : List IntKind} (hn : n = ks.length) (h : Flat ((cs.drop o).take n) 0 ks) : Flat cs o ks := by
  intro j k hj
  obtain ⟨z, hz, wz⟩ := h j k hj
  have hlt : j < n := by rw [hn]; exact (List.getElem?_eq_some_iff.1 hj).1
  rw [Nat.zero_add, List.getElem?_take_of_lt hlt, List.getElem?_drop] at hz
  exact ⟨z, hz, wz⟩
theorem Flat.copies {cs : List Value} {ks : List IntKind} : ∀ (n o : Nat), (∀ i, i < n → Flat cs (o + i * ks.length) ks) → Flat cs o (List.replicate n ks).flatten
  | 0, o, _ => by simpa using Flat.nil
  | n + 1, o, h => by
    rw [List.replicate_succ, List.flatten_cons]
    refine Flat.append (by simpa using h 0 (by omega)) (Flat.copies n _ fun i hi => ?_)
    have := h (i + 1) (by omega)
    rwa [Nat.succ_mul, show o + (i * ks.length + ks.length) = o + ks.length + i * ks.length by omega] at this

theorem flat_spec : ∀ (d : Nat),
    (∀ (t : TypeId) (ks : List IntKind) (fuel : Nat) (cs : List Value) (x : DataW H × List MemPlace), flat P d t = some ks → DataW.trod enc P w base spare held fuel t cs = some x → Flat cs 0 ks) ∧
    (∀ (l : List Field) (o : Nat) (ks : List IntKind) (fuel : Nat) (cs : List Value), flatL P d l o = some ks →
      (∀ f ∈ l, ∃ x, DataW.trod enc P w base spare held fuel f.type ((cs.drop f.offset).take (P.cellsOf f.type)) = some x) → Flat cs o ks)
  | 0 => ⟨fun t ks fuel cs x h _ => by simp [flat] at h, fun l o ks fuel cs h _ => by
      cases l with
      | nil => simp [flatL] at h; subst h; exact Flat.nil
      | cons f r => simp [flatL] at h⟩
  | d + 1 => by
    obtain ⟨ih1, ih2⟩ := flat_spec d
    refine ⟨fun t ks fuel cs x h ht => ?_, fun l o ks fuel cs h hf => ?_⟩
    · unfold flat at h
      split at h
      · rename_i k hu
        cases h
        obtain ⟨z, rfl, _, wz⟩ := DataW.trod_int hu ht
        intro j k' hj
        have : j = 0 := by cases j with | zero => rfl | succ j => simp at hj
        subst this
        simp at hj
        subst hj
        exact ⟨z, by simp, wz⟩
      · rename_i n e hu
        obtain ⟨ks0, h0, h1⟩ := Option.bind_eq_some_iff.1 h
        split at h1
        · rename_i hc
          cases h1
          obtain ⟨xs, m, rfl, _, hlen, hxl, hel⟩ := DataW.trod_array hu ht
          refine Flat.copies n 0 fun i hi => ?_
          have he := hel i hi
          rw [List.getElem?_eq_getElem (by omega)] at he
          have := ih1 e ks0 m _ _ h0 he
          rw [Nat.zero_add]
          rw [hc.1] at this
          exact Flat.of_part rfl this
        · cases h1
      · rename_i fs hu
        obtain ⟨ks0, h0, h1⟩ := Option.bind_eq_some_iff.1 h
        split at h1
        · cases h1
          obtain ⟨xs, m, rfl, _, hlen, hxl, hel⟩ := DataW.trod_struct hu ht
          refine ih2 fs.toList 0 ks m cs h0 fun f hf => ?_
          obtain ⟨i, hi, rfl⟩ := List.getElem_of_mem hf
          have hi' : i < fs.size := by simpa using hi
          have := hel i fs[i] (Array.getElem?_eq_getElem hi')
          rw [List.getElem?_eq_getElem (by omega)] at this
          exact ⟨_, by simpa using this⟩
        · cases h1
      · cases h
    · cases l with
      | nil => simp [flatL] at h; subst h; exact Flat.nil
      | cons f r =>
        unfold flatL at h
        obtain ⟨ks0, h0, h1⟩ := Option.bind_eq_some_iff.1 h
        split at h1
        · rename_i hc
          obtain ⟨ks1, h2, rfl⟩ := Option.map_eq_some_iff.1 h1
          obtain ⟨x, hx⟩ := hf f (by simp)
          have a := ih1 f.type ks0 fuel _ _ h0 hx
          rw [hc.1] at a
          exact Flat.append (Flat.of_part hc.2 a) (ih2 r _ ks1 fuel cs h2 fun g hg => hf g (by simp [hg]))
        · cases h1

/-- A slice whose elements lie flat: its cells. -/
theorem open_flat_slice {t e : TypeId} {ks : List IntKind} {d fuel : Nat} {cs : List Value} {x : DataW H × List MemPlace} (ht : P.underlying t = some (.slice e)) (he : flat P d e = some ks) (hC : P.cellsOf e = ks.length)
    (h : DataW.trod enc P w base spare held fuel t cs = some x) :
    cs = [.slice none 0 0] ∨
    ∃ (a : Addr) (len cap : Nat) (g : Nat → Nat → Int), cs = [.slice (some a) len cap] ∧ base ≤ a.block ∧ len ≤ cap ∧ cap ≤ maxLen ∧
      ∀ i j k, i < len → ks[j]? = some k → w.cell? (a.add (i * ks.length + j)) = some (.int k (g i j)) ∧ (Lit.int k (g i j)).wf = true := by
  rcases open_slice ht h with h0 | ⟨a, len, cap, m, n, D, Pl, hcs, hb, hl, hm, hmm, hx, hi⟩
  · exact .inl h0.1
  · have key : ∀ i j, ∃ z : Int, i < len → ∀ k, ks[j]? = some k → w.cell? (a.add (i * ks.length + j)) = some (.int k z) ∧ (Lit.int k z).wf = true := by
      intro i j
      by_cases hil : i < len
      · cases hk : ks[j]? with
        | none => exact ⟨0, fun _ k hk' => by cases hk'⟩
        | some k =>
          have him : i < m := by rw [hmm]; split <;> omega
          obtain ⟨cs', hc, ht'⟩ := hi i him
          rw [hC] at hc
          obtain ⟨_, hcl, hat⟩ := World.cells?_some hc
          obtain ⟨z, hz, wz⟩ := (flat_spec d).1 e ks n cs' _ he ht' j k hk
          have hj : j < ks.length := (List.getElem?_eq_some_iff.1 hk).1
          refine ⟨z, fun _ k' hk' => ?_⟩
          obtain rfl : k = k' := Option.some.inj hk'
          refine ⟨?_, wz⟩
          rw [← Go.Deep.add_add, hat j hj]
          simpa using hz
      · exact ⟨0, fun h => absurd h hil⟩
    exact .inr ⟨a, len, cap, fun i j => (key i j).choose, hcs, hb, hl, hm, fun i j k hil hk => (key i j).choose_spec hil k hk⟩

theorem addr_add (b off n : Nat) : (⟨b, off, none⟩ : Addr).add n = ⟨b, off + n, none⟩ := by
  unfold Addr.add
  split
  · rename_i h; subst h; rfl
  · rfl
/-- .. at an address without a spot. -/
theorem flat_cells {ks : List IntKind} {a : Addr} {len : Nat} {g : Nat → Nat → Int} (hpos : 0 < len) (hks : 0 < ks.length)
    (hg : ∀ i j k, i < len → ks[j]? = some k → w.cell? (a.add (i * ks.length + j)) = some (.int k (g i j)) ∧ (Lit.int k (g i j)).wf = true) :
    ∃ b off, a = ⟨b, off, none⟩ ∧ ∀ i j k, i < len → ks[j]? = some k → w.cell? ⟨b, off + i * ks.length + j, none⟩ = some (.int k (g i j)) ∧ (Lit.int k (g i j)).wf = true := by
  obtain ⟨b, off, sp⟩ := a
  have h1 := (hg 0 0 ks[0] hpos (List.getElem?_eq_getElem hks)).1
  obtain rfl : sp = none := by
    cases sp with
    | none => rfl
    | some s => simp [World.cell?, Addr.add] at h1; split at h1 <;> simp at h1
  refine ⟨b, off, rfl, fun i j k hi hk => ?_⟩
  have := hg i j k hi hk
  rw [addr_add, ← Nat.add_assoc] at this
  exact this
end

/-! worlds that grow -/
theorem cell_al {W : World} {a : Addr} {v : Value} (o : Obj) (h : W.cell? a = some v) : (W.alloc o).cell? a = some v := (World.cell?_alloc_lt _ _ _ (World.block_lt_of_cell? _ _ h)).trans h
theorem _root_.Go.RowKit.Below.gb {W w1 : World} (hb : Below W.heap.size W w1) (row : Option Nat) : W.grownBy w1 row := ⟨hb.os, hb.tape, hb.output, hb.size, fun k hk _ => hb.block k hk⟩
theorem undrew {w w' : World} {r : Option Nat} (h : w.drew.grownBy w' r) : w.grownBy w' r := ⟨h.os, h.tape, h.output, h.size, h.block⟩
theorem bcell {W w1 : World} (hb : Below W.heap.size W w1) : (∀ b o, b < W.heap.size → w1.cell? ⟨b, o, none⟩ = W.cell? ⟨b, o, none⟩) ∧ (∀ b o, b < W.heap.size → w1.frozen? ⟨b, o, none⟩ = W.frozen? ⟨b, o, none⟩) :=
  ⟨fun b o h => hb.cell (p := ⟨b, o, none⟩) h, fun b o h => hb.frozen (p := ⟨b, o, none⟩) h⟩
theorem below_drewN' {W : World} (n : Nat) : Below W.heap.size W (W.drewN n) := ⟨rfl, rfl, rfl, Nat.le_refl _, fun _ _ => rfl⟩

/-- A row of rows of k cells each lies behind an address. -/
def Elems (w : World) (a : Option Addr) (k : Nat) (rows : List (List Value)) : Prop :=
  ∀ i row, rows[i]? = some row → ∃ b off, a = some ⟨b, off, none⟩ ∧ b < w.heap.size ∧ ∀ j v, row[j]? = some v → w.cell? ⟨b, off + i * k + j, none⟩ = some v
theorem Elems.below {w w' : World} {a : Option Addr} {k : Nat} {rows : List (List Value)} (h : Elems w a k rows) (hb : Below w.heap.size w w') : Elems w' a k rows := by
  intro i row hi
  obtain ⟨b, off, ha, hlt, hc⟩ := h i row hi
  exact ⟨b, off, ha, Nat.lt_of_lt_of_le hlt hb.size, fun j v hj => (hb.cell (p := ⟨b, off + i * k + j, none⟩) hlt).trans (hc j v hj)⟩
theorem Elems.nil {w : World} {a : Option Addr} {k : Nat} : Elems w a k [] := fun _ _ h => by simp at h
end Go.Proofs.Ytdlmijcnjjdbbaa
