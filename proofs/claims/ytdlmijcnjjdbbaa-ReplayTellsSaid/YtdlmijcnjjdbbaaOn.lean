/- Arguments opened: rows of ops, of blocks, of words and of ints. Conditions: each lemma's own. -/
import Derived.Test.YtdlmijcnjjdbbaaTp
import Derived.Test.YtdlmijcnjjdbbaaTr
import Derived.Test.YtdlmijcnjjdbbaaTc
import Derived.ProofKit
import Derived.OpenShut
import Derived.ChangeOld
import Derived.SizedLaws
import Derived.Deep.Slices
import Derived.Deep.Fields
import Derived.ChangeSame
import Derived.Lib.SmallJoins
namespace Go.Proofs.Ytdlmijcnjjdbbaa
open Go Go.RowKit Go.ChangeShapes Go.WideShapes Go.ChangeAt Go.Deep Go.Joins

theorem flatOp : flat Try.prog 9 60 = some [.i64, .i64, .i64, .i64, .i64, .u64] := by kernel_rfl
theorem flatSpan : flat Try.prog 9 71 = some [.i64, .i64, .i64] := by kernel_rfl
theorem flatU : flat Try.prog 9 40 = some [.u64] := by kernel_rfl
theorem flatI : flat Try.prog 9 3 = some [.i64] := by kernel_rfl
theorem cellsOp : Try.prog.cellsOf 60 = 6 := by kernel_rfl
theorem cellsSpan : Try.prog.cellsOf 71 = 3 := by kernel_rfl
theorem cellsU : Try.prog.cellsOf 40 = 1 := by kernel_rfl
theorem cellsI : Try.prog.cellsOf 3 = 1 := by kernel_rfl

section
variable {H : Type} {enc : TypeId × Value → H} {w : World} {base : Nat} {spare : Nat → Bool} {held : Bool} {fuel : Nat} {v : Value} {x : DataW H × List MemPlace}

theorem ops_of (h : DataW.trod enc Try.prog w base spare held fuel 22 [v] = some x) :
    ∃ a cap ops, v = .slice a ops.length cap ∧ OpsAt w a ops ∧ (∀ o ∈ ops, o.Wf) ∧ ops.length ≤ cap ∧ cap ≤ maxLen := by
  rcases open_flat_slice Try.underlying22 flatOp cellsOp h with hcs | ⟨a', l, c, g, hcs, _, hlc, hc, hg⟩
  · simp at hcs
    exact ⟨none, 0, [], by rw [hcs]; rfl, Elems.nil, by simp, by simp, by simp⟩
  · simp at hcs
    refine ⟨some a', c, (List.range l).map fun i => ⟨g i 0, g i 1, g i 2, g i 3, g i 4, g i 5⟩, by rw [hcs]; simp, ?_, ?_, by simpa using hlc, hc⟩
    · intro i row hi
      rw [List.getElem?_map, List.getElem?_map] at hi
      obtain ⟨o, ho, rfl⟩ := Option.map_eq_some_iff.1 hi
      obtain ⟨k, hk, rfl⟩ := Option.map_eq_some_iff.1 ho
      obtain ⟨hkl, hki⟩ := List.getElem?_eq_some_iff.1 hk
      simp at hkl hki
      subst hki
      obtain ⟨b, off, rfl, hcell⟩ := flat_cells (by omega) (by simp) hg
      have c0 := (hcell i 0 .i64 hkl rfl).1
      refine ⟨b, off, rfl, lt_of_cell c0, fun j u hj => ?_⟩
      match j with
      | 0 => simp [OpV.cells] at hj; subst hj; exact c0
      | 1 => simp [OpV.cells] at hj; subst hj; exact (hcell i 1 .i64 hkl rfl).1
      | 2 => simp [OpV.cells] at hj; subst hj; exact (hcell i 2 .i64 hkl rfl).1
      | 3 => simp [OpV.cells] at hj; subst hj; exact (hcell i 3 .i64 hkl rfl).1
      | 4 => simp [OpV.cells] at hj; subst hj; exact (hcell i 4 .i64 hkl rfl).1
      | 5 => simp [OpV.cells] at hj; subst hj; exact (hcell i 5 .u64 hkl rfl).1
      | j + 6 => simp [OpV.cells] at hj
    · intro o ho
      simp at ho
      obtain ⟨i, hi, rfl⟩ := ho
      exact ⟨(hg i 0 .i64 hi rfl).2, (hg i 1 .i64 hi rfl).2, (hg i 2 .i64 hi rfl).2, (hg i 3 .i64 hi rfl).2, (hg i 4 .i64 hi rfl).2, (hg i 5 .u64 hi rfl).2⟩
theorem spans_of (h : DataW.trod enc Try.prog w base spare held fuel 23 [v] = some x) :
    ∃ a cap l, v = .slice a l.length cap ∧ SpansAt w a l ∧ (∀ s ∈ l, s.Wf) ∧ l.length ≤ cap ∧ cap ≤ maxLen := by
  rcases open_flat_slice Try.underlying23 flatSpan cellsSpan h with hcs | ⟨a', l, c, g, hcs, _, hlc, hc, hg⟩
  · simp at hcs
    exact ⟨none, 0, [], by rw [hcs]; rfl, Elems.nil, by simp, by simp, by simp⟩
  · simp at hcs
    refine ⟨some a', c, (List.range l).map fun i => ⟨g i 0, g i 1, g i 2⟩, by rw [hcs]; simp, ?_, ?_, by simpa using hlc, hc⟩
    · intro i row hi
      rw [List.getElem?_map, List.getElem?_map] at hi
      obtain ⟨o, ho, rfl⟩ := Option.map_eq_some_iff.1 hi
      obtain ⟨k, hk, rfl⟩ := Option.map_eq_some_iff.1 ho
      obtain ⟨hkl, hki⟩ := List.getElem?_eq_some_iff.1 hk
      simp at hkl hki
      subst hki
      obtain ⟨b, off, rfl, hcell⟩ := flat_cells (by omega) (by simp) hg
      have c0 := (hcell i 0 .i64 hkl rfl).1
      refine ⟨b, off, rfl, lt_of_cell c0, fun j u hj => ?_⟩
      match j with
      | 0 => simp [SpanV.cells] at hj; subst hj; exact c0
      | 1 => simp [SpanV.cells] at hj; subst hj; exact (hcell i 1 .i64 hkl rfl).1
      | 2 => simp [SpanV.cells] at hj; subst hj; exact (hcell i 2 .i64 hkl rfl).1
      | j + 3 => simp [SpanV.cells] at hj
    · intro o ho
      simp at ho
      obtain ⟨i, hi, rfl⟩ := ho
      exact ⟨(hg i 0 .i64 hi rfl).2, (hg i 1 .i64 hi rfl).2, (hg i 2 .i64 hi rfl).2⟩
theorem words_of (h : DataW.trod enc Try.prog w base spare held fuel 26 [v] = some x) :
    ∃ a cap l, v = .slice a (List.length (α := W64) l) cap ∧ WordsAt w a l ∧ l.length ≤ cap ∧ cap ≤ maxLen := by
  rcases open_flat_slice Try.underlying26 flatU cellsU h with hcs | ⟨a', l, c, g, hcs, _, hlc, hc, hg⟩
  · simp at hcs
    exact ⟨none, 0, [], by rw [hcs]; rfl, WordsAt.nil, by simp, by simp⟩
  · simp at hcs
    have key : ∀ i, ∃ z : W64, i < l → g i 0 = U z := fun i => by
      by_cases hi : i < l
      · obtain ⟨z, hz⟩ := U_of (hg i 0 .u64 hi rfl).2
        exact ⟨z, fun _ => hz⟩
      · exact ⟨0, fun h => absurd h hi⟩
    refine ⟨some a', c, (List.range l).map fun i => (key i).choose, by rw [hcs]; simp, ?_, by simpa using hlc, hc⟩
    refine WordsAt.mk fun i z hi => ?_
    rw [List.getElem?_map] at hi
    obtain ⟨k, hk, rfl⟩ := Option.map_eq_some_iff.1 hi
    obtain ⟨hkl, hki⟩ := List.getElem?_eq_some_iff.1 hk
    simp at hkl hki
    subst hki
    obtain ⟨b, off, rfl, hcell⟩ := flat_cells (by omega) (by simp) hg
    have c0 := (hcell i 0 .u64 hkl rfl).1
    simp only [List.length_cons, List.length_nil, Nat.zero_add, Nat.mul_one, Nat.add_zero] at c0
    exact ⟨b, off, rfl, lt_of_cell c0, by rw [← (key i).choose_spec hkl]; exact c0⟩
theorem ints_of (h : DataW.trod enc Try.prog w base spare held fuel 29 [v] = some x) :
    ∃ a cap l, v = .slice a (List.length (α := Int) l) cap ∧ IntsAt w a l ∧ (∀ z ∈ l, (Lit.int .i64 z).wf = true) ∧ l.length ≤ cap ∧ cap ≤ maxLen ∧ (x.1 = .nil ∨ ∃ el sp, x.1 = .slice el sp ∧ l.length ≤ el.length) := by
  have hx : (v = .slice none 0 0) ∨ ∃ a len cap el sp, v = .slice (some a) len cap ∧ x.1 = .slice el sp ∧ el.length = len := by
    rcases open_slice Try.underlying29 h with h0 | ⟨a, len, cap, m, n, D, Pl, hcs, hb, hl, hm, hmm, hx, hi⟩
    · simp at h0; exact .inl h0.1
    · simp at hcs
      exact .inr ⟨a, len, cap, _, _, hcs, by rw [hx], by simp⟩
  rcases open_flat_slice Try.underlying29 flatI cellsI h with hcs | ⟨a', l, c, g, hcs, _, hlc, hc, hg⟩
  · simp at hcs
    rcases open_slice Try.underlying29 h with h0 | ⟨a, len, cap, m, n, D, Pl, hcs', _⟩
    · exact ⟨none, 0, [], by rw [hcs]; rfl, Elems.nil, by simp, by simp, by simp, .inl (by rw [h0.2])⟩
    · simp [hcs] at hcs'
  · simp at hcs
    rcases hx with hx | ⟨a, len, cap, el, sp, hx1, hx2, hx3⟩
    · rw [hcs] at hx; simp at hx
    · rw [hcs] at hx1
      simp at hx1
      refine ⟨some a', c, (List.range l).map fun i => g i 0, by rw [hcs]; simp, ?_, ?_, by simpa using hlc, hc, .inr ⟨el, sp, hx2, by simp; omega⟩⟩
      · refine IntsAt.mk fun i z hi => ?_
        rw [List.getElem?_map] at hi
        obtain ⟨k, hk, rfl⟩ := Option.map_eq_some_iff.1 hi
        obtain ⟨hkl, hki⟩ := List.getElem?_eq_some_iff.1 hk
        simp at hkl hki
        subst hki
        obtain ⟨b, off, rfl, hcell⟩ := flat_cells (by omega) (by simp) hg
        have c0 := (hcell i 0 .i64 hkl rfl).1
        simp only [List.length_cons, List.length_nil, Nat.zero_add, Nat.mul_one, Nat.add_zero] at c0
        exact ⟨b, off, rfl, lt_of_cell c0, c0⟩
      · intro z hz
        simp at hz
        obtain ⟨i, hi, rfl⟩ := hz
        exact (hg i 0 .i64 hi rfl).2
end
end Go.Proofs.Ytdlmijcnjjdbbaa
