/- visorlaw29.awake: the chapter's example. Conditions: none. -/
import Derived.Test.YtdlmijcnjjdbbaaRu
namespace Go.Proofs.Ytdlmijcnjjdbbaa
open Go Go.RowKit

theorem U_nine : U (9 : W64) = 9 := by unfold U; decide +kernel
def exOp : OpV := ⟨3, 0, -1, -1, -1, 9⟩
theorem ex_run : upV false [] [] [] [exOp] 1 = [(9 : W64)] := by decide +kernel
theorem ex_check : checkB 2 [exOp] [] = true := by decide +kernel
theorem ex_check0 : checkB 2 [] [] = true := by decide +kernel
theorem ex_wf : ∀ o ∈ [exOp], o.Wf := by
  intro o ho
  simp at ho
  subst ho
  exact ⟨by decide +kernel, by decide +kernel, by decide +kernel, by decide +kernel, by decide +kernel, by decide +kernel⟩

def Run0 (w : World) (e : Ending) (w' : World) : Prop := ∃ a c, e = .returned (.tuple #[.slice a 0 c, .int .i64 0]) ∧ Below w.heap.size w w'
theorem run_ex0 (w : World) : Calls Try.prog 7 #[.agg #[.int .i64 2, .slice none 0 0, .slice none 0 0], .slice none 0 0, .slice none 0 0] w (Run0 w) := by
  refine (run_any 2 none 0 [] none 0 [] [] [] none 0 none 0 w ⟨Elems.nil, Elems.nil, by simp, by simp⟩ (by simp) WordsAt.nil (by simp) WordsAt.nil (by simp) (by simp [maxLen])).mono ?_
  rintro e w' ⟨v, rfl, hv, hb⟩
  rw [ex_check0] at hv ⊢
  obtain ⟨a, c, rfl⟩ := ownsRow_slice hv
  exact ⟨a, c, rfl, hb⟩
def Run1 (w : World) (e : Ending) (w' : World) : Prop := ∃ a c, e = .returned (.tuple #[.slice a 1 c, .int .i64 0]) ∧ WordsAt w' a [9] ∧ Below w.heap.size w w'
theorem run_ex1 (oa : Option Addr) (oc : Nat) (w : World) (hT : OpsAt w oa [exOp]) : Calls Try.prog 7 #[.agg #[.int .i64 2, .slice oa 1 oc, .slice none 0 0], .slice none 0 0, .slice none 0 0] w (Run1 w) := by
  refine (run_any 2 oa oc [exOp] none 0 [] [] [] none 0 none 0 w ⟨hT, Elems.nil, by simp [maxLen], by simp⟩ ex_wf WordsAt.nil (by simp) WordsAt.nil (by simp) (by simp [maxLen])).mono ?_
  rintro e w' ⟨v, rfl, hv, hb⟩
  rw [ex_check] at hv ⊢
  have e1 : (decide (([] : List W64).length = kn [exOp] 2) && decide (([] : List W64).length = kn [exOp] 1)) = true := by decide +kernel
  have e2 : upV false [] [] [] [exOp] [exOp].length = [(9 : W64)] := ex_run
  rw [e1, e2] at hv
  obtain ⟨_, a, c, rfl, _, _, hw⟩ := ownsRow_words hv
  rw [e1]
  exact ⟨a, c, rfl, hw, hb⟩

set_option maxRecDepth 100000 in
theorem awake_any (w : World) : Calls Try.prog 6 #[] w fun e w' => e = .returned (.bool true) ∧ Below w.heap.size w w' := by
  go_enter Try.func6, Try.ntmps6
  go_wp2_with fail
  refine (run_ex0 _).mono ?_
  rintro e w1 ⟨a, c, rfl, hb1⟩
  have HB1 := Lib.hid hb1
  clear hb1
  go_wp2_with fail
  refine (run_ex1 _ _ _ ?_).mono ?_
  · intro i row hi
    cases i with
    | zero =>
      simp at hi
      subst hi
      refine ⟨w1.heap.size, 0, rfl, by simp, ?_⟩
      intro j v hj
      rw [show 0 + 0 * 6 + j = j by omega]
      have e := World.alloc_heap_new w1 (.cells #[.int .i64 3, .int .i64 0, .int .i64 (-1), .int .i64 (-1), .int .i64 (-1), .int .u64 9] 60)
      unfold World.cell?
      rw [e]
      show (#[Value.int .i64 3, .int .i64 0, .int .i64 (-1), .int .i64 (-1), .int .i64 (-1), .int .u64 9] : Array Value)[j]? = some v
      simpa [OpV.cells, exOp] using hj
    | succ i => simp at hi
  · rintro e w2 ⟨a2, c2, rfl, hw, hb2⟩
    obtain ⟨b, off, rfl, hb, c0⟩ := hw.at (i := 0) rfl
    rw [U_nine] at c0
    simp only [Nat.add_zero] at c0
    have HB2 := Lib.hid (HB1.out.trans (((below_al w1 _).trans (hb2.mono (by rw [World.size_alloc]; exact Nat.le_succ _))).mono HB1.out.size))
    clear hb2 hw
    go_wp2_with fail
    go_ret
    exact ⟨rfl, HB2.out⟩
end Go.Proofs.Ytdlmijcnjjdbbaa
