/- Data that lies flat: a type whose cells are integers alone, and what a reading says of its cells. -/
import Derived.OpenShut
import Derived.Deep.Slices
import Derived.Deep.Fields
import Derived.WalkKit
namespace Go.Proofs.Ytiemcbeeehbhjaa
open Go Go.Deep

mutual
/-- The kinds of a type's cells, where all are integers. -/
def flat (P : Program) : Nat → TypeId → Option (List IntKind)
  | 0, _ => none
  | d + 1, t =>
    match P.underlying t with
    | some (.int k) => some [k]
    | some (.array n e) => (flat P d e).bind fun ks => if P.cellsOf e = ks.length ∧ P.cellsOf t = n * ks.length then some (List.replicate n ks).flatten else none
    | some (.struct fs) => (flatL P d fs.toList 0).bind fun ks => if P.cellsOf t = ks.length then some ks else none
    | _ => none
def flatL (P : Program) : Nat → List Field → Nat → Option (List IntKind)
  | _, [], _ => some []
  | 0, _ :: _, _ => none
  | d + 1, f :: r, o => (flat P d f.type).bind fun ks => if f.offset = o ∧ P.cellsOf f.type = ks.length then (flatL P d r (o + ks.length)).map (ks ++ ·) else none
end

section
variable {H : Type} {enc : TypeId × Value → H} {P : Program} {w : World} {base : Nat} {spare : Nat → Bool} {held : Bool}

/-- Cells that are integers of given kinds. -/
def Flat (cs : List Value) (o : Nat) (ks : List IntKind) : Prop := ∀ j k, ks[j]? = some k → ∃ z, cs[o + j]? = some (.int k z) ∧ (Lit.int k z).wf = true

theorem Flat.nil {cs : List Value} {o : Nat} : Flat cs o [] := fun _ _ h => by simp at h
theorem Flat.append {cs : List Value} {o : Nat} {ks ls : List IntKind} (h : Flat cs o ks) (h' : Flat cs (o + ks.length) ls) : Flat cs o (ks ++ ls) := by
  intro j k hj
  by_cases hlt : j < ks.length
  · rw [List.getElem?_append_left hlt] at hj; exact h j k hj
  · rw [List.getElem?_append_right (by omega)] at hj
    have := h' _ k hj
    rwa [show o + ks.length + (j - ks.length) = o + j by omega] at this
theorem Flat.of_part {cs : List Value} {o n : Nat} {ks : List IntKind} (hn : n = ks.length) (h : Flat ((cs.drop o).take n) 0 ks) : Flat cs o ks := by
  intro j k hj
  obtain ⟨z, hz, wz⟩ := h j k hj
  have hlt : j < n := by rw [hn]; exact (List.getElem?_eq_some_iff.1 hj).1
  rw [Nat.zero_add, List.getElem?_take_of_lt hlt, List.getElem?_drop] at hz
  exact ⟨z, hz, wz⟩
theorem Flat.copies {cs : List Value} {ks : List IntKind} : ∀ (n o : Nat), (∀ i, i < n → Flat cs (o + i * ks.length) ks) → Flat cs o (List.replicate n ks).flatten
  | 0, o, _ => by simpa using Flat.nil
  | n + 1, o, h => by
    rw [List.replicate_succ, List.flatten_cons]
    refine Flat.append (by simpa using h 0 (by omega)) (Flat.copies n _ fun i hi => ?_)
    have := h (i + 1) (by omega)
    rwa [Nat.succ_mul, show o + (i * ks.length + ks.length) = o + ks.length + i * ks.length by omega] at this

theorem flat_spec : ∀ (d : Nat),
    (∀ (t : TypeId) (ks : List IntKind) (fuel : Nat) (cs : List Value) (x : DataW H × List MemPlace), flat P d t = some ks → DataW.trod enc P w base spare held fuel t cs = some x → Flat cs 0 ks) ∧
    (∀ (l : List Field) (o : Nat) (ks : List IntKind) (fuel : Nat) (cs : List Value), flatL P d l o = some ks →
      (∀ f ∈ l, ∃ x, DataW.trod enc P w base spare held fuel f.type ((cs.drop f.offset).take (P.cellsOf f.type)) = some x) → Flat cs o ks)
  | 0 => ⟨fun t ks fuel cs x h _ => by simp [flat] at h, fun l o ks fuel cs h _ => by
      cases l with
      | nil => simp [flatL] at h; subst h; exact Flat.nil
      | cons f r => simp [flatL] at h⟩
  | d + 1 => by
    obtain ⟨ih1, ih2⟩ := flat_spec d
    refine ⟨fun t ks fuel cs x h ht => ?_, fun l o ks fuel cs h hf => ?_⟩
    · unfold flat at h
      split at h
      · rename_i k hu
        cases h
        obtain ⟨z, rfl, _, wz⟩ := DataW.trod_int hu ht
        intro j k' hj
        have : j = 0 := by cases j with | zero => rfl | succ j => simp at hj
        subst this
        simp at hj
        subst hj
        exact ⟨z, by simp, wz⟩
      · rename_i n e hu
        obtain ⟨ks0, h0, h1⟩ := Option.bind_eq_some_iff.1 h
        split at h1
        · rename_i hc
          cases h1
          obtain ⟨xs, m, rfl, _, hlen, hxl, hel⟩ := DataW.trod_array hu ht
          refine Flat.copies n 0 fun i hi => ?_
          have he := hel i hi
          rw [List.getElem?_eq_getElem (by omega)] at he
          have := ih1 e ks0 m _ _ h0 he
          rw [Nat.zero_add]
          rw [hc.1] at this
          exact Flat.of_part rfl this
        · cases h1
      · rename_i fs hu
        obtain ⟨ks0, h0, h1⟩ := Option.bind_eq_some_iff.1 h
        split at h1
        · cases h1
          obtain ⟨xs, m, rfl, _, hlen, hxl, hel⟩ := DataW.trod_struct hu ht
          refine ih2 fs.toList 0 ks m cs h0 fun f hf => ?_
          obtain ⟨i, hi, rfl⟩ := List.getElem_of_mem hf
          have hi' : i < fs.size := by simpa using hi
          have := hel i fs[i] (Array.getElem?_eq_getElem hi')
          rw [List.getElem?_eq_getElem (by omega)] at this
          exact ⟨_, by simpa using this⟩
        · cases h1
      · cases h
    · cases l with
      | nil => simp [flatL] at h; subst h; exact Flat.nil
      | cons f r =>
        unfold flatL at h
        obtain ⟨ks0, h0, h1⟩ := Option.bind_eq_some_iff.1 h
        split at h1
        · rename_i hc
          obtain ⟨ks1, h2, rfl⟩ := Option.map_eq_some_iff.1 h1
          obtain ⟨x, hx⟩ := hf f (by simp)
          have a := ih1 f.type ks0 fuel _ _ h0 hx
          rw [hc.1] at a
          exact Flat.append (Flat.of_part hc.2 a) (ih2 r _ ks1 fuel cs h2 fun g hg => hf g (by simp [hg]))
        · cases h1

/-- A slice whose elements lie flat: its cells. -/
theorem open_flat_slice {t e : TypeId} {ks : List IntKind} {d fuel : Nat} {cs : List Value} {x : DataW H × List MemPlace} (ht : P.underlying t = some (.slice e)) (he : flat P d e = some ks) (hC : P.cellsOf e = ks.length)
    (h : DataW.trod enc P w base spare held fuel t cs = some x) :
    cs = [.slice none 0 0] ∨
    ∃ (a : Addr) (len cap : Nat) (g : Nat → Nat → Int), cs = [.slice (some a) len cap] ∧ base ≤ a.block ∧ len ≤ cap ∧ cap ≤ maxLen ∧
      ∀ i j k, i < len → ks[j]? = some k → w.cell? (a.add (i * ks.length + j)) = some (.int k (g i j)) ∧ (Lit.int k (g i j)).wf = true := by
  rcases open_slice ht h with h0 | ⟨a, len, cap, m, n, D, Pl, hcs, hb, hl, hm, hmm, hx, hi⟩
  · exact .inl h0.1
  · have key : ∀ i j, ∃ z : Int, i < len → ∀ k, ks[j]? = some k → w.cell? (a.add (i * ks.length + j)) = some (.int k z) ∧ (Lit.int k z).wf = true := by
      intro i j
      by_cases hil : i < len
      · cases hk : ks[j]? with
        | none => exact ⟨0, fun _ k hk' => by cases hk'⟩
        | some k =>
          have him : i < m := by rw [hmm]; split <;> omega
          obtain ⟨cs', hc, ht'⟩ := hi i him
          rw [hC] at hc
          obtain ⟨_, hcl, hat⟩ := World.cells?_some hc
          obtain ⟨z, hz, wz⟩ := (flat_spec d).1 e ks n cs' _ he ht' j k hk
          have hj : j < ks.length := (List.getElem?_eq_some_iff.1 hk).1
          refine ⟨z, fun _ k' hk' => ?_⟩
          obtain rfl : k = k' := Option.some.inj hk'
          refine ⟨?_, wz⟩
          rw [← Go.Deep.add_add, hat j hj]
          simpa using hz
      · exact ⟨0, fun h => absurd h hil⟩
    exact .inr ⟨a, len, cap, fun i j => (key i j).choose, hcs, hb, hl, hm, fun i j k hil hk => (key i j).choose_spec hil k hk⟩

theorem addr_add (b off n : Nat) : (⟨b, off, none⟩ : Addr).add n = ⟨b, off + n, none⟩ := by
  unfold Addr.add
  split
  · rename_i h; subst h; rfl
  · rfl
/-- .. at an address without a spot. -/
theorem flat_cells {ks : List IntKind} {a : Addr} {len : Nat} {g : Nat → Nat → Int} (hpos : 0 < len) (hks : 0 < ks.length)
    (hg : ∀ i j k, i < len → ks[j]? = some k → w.cell? (a.add (i * ks.length + j)) = some (.int k (g i j)) ∧ (Lit.int k (g i j)).wf = true) :
    ∃ b off, a = ⟨b, off, none⟩ ∧ ∀ i j k, i < len → ks[j]? = some k → w.cell? ⟨b, off + i * ks.length + j, none⟩ = some (.int k (g i j)) ∧ (Lit.int k (g i j)).wf = true := by
  obtain ⟨b, off, sp⟩ := a
  have h1 := (hg 0 0 ks[0] hpos (List.getElem?_eq_getElem hks)).1
  obtain rfl : sp = none := by
    cases sp with
    | none => rfl
    | some s => simp [World.cell?, Addr.add] at h1; split at h1 <;> simp at h1
  refine ⟨b, off, rfl, fun i j k hi hk => ?_⟩
  have := hg i j k hi hk
  rw [addr_add, ← Nat.add_assoc] at this
  exact this
end
end Go.Proofs.Ytiemcbeeehbhjaa
