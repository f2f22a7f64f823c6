/- trace.Draws, trace.Words. Conditions: each lemma's own. -/
import Derived.Test.YtdlmijcnjjdbbaaTb
namespace Go.Proofs.Ytdlmijcnjjdbbaa
open Go Go.RowKit

theorem draws_any (n : Int) (oa : Option Addr) (oc : Nat) (ops : List OpV) (ba : Option Addr) (bl bc : Nat) (w : World) (hT : OpsAt w oa ops) (hl : ops.length ≤ maxLen) :
    Calls Try.prog 24 #[.agg #[.int .i64 n, .slice oa ops.length oc, .slice ba bl bc]] w fun e w' => e = .returned (.int .i64 (kc ops 1)) ∧ Below w.heap.size w w' := by
  have HT := Lib.hid hT; clear hT
  have i1 : ∀ w, (Instr.index 46 (.agg (tcells (kc ops))) (.int .i64 1)).run Try.prog w = .ok (.int .i64 (kc ops 1)) w := fun _ => by kernel_rfl
  go_enter Try.func24, Try.ntmps24
  go_wp2_with fail
  refine (tally_any _ oa oc ops ba bl bc _ (by exact Elems.below HT.out (below_al _ _)) hl).mono ?_
  rintro e w1 ⟨rfl, hb⟩
  have hB := Lib.hid ((below_al w _).trans (hb.mono (by rw [World.size_alloc]; exact Nat.le_succ _)))
  clear hb
  go_wp2_with fail
  go_ret
  exact ⟨rfl, hB.out⟩
theorem words_any (n : Int) (oa : Option Addr) (oc : Nat) (ops : List OpV) (ba : Option Addr) (bl bc : Nat) (w : World) (hT : OpsAt w oa ops) (hl : ops.length ≤ maxLen) :
    Calls Try.prog 23 #[.agg #[.int .i64 n, .slice oa ops.length oc, .slice ba bl bc]] w fun e w' => e = .returned (.int .i64 (kc ops 2)) ∧ Below w.heap.size w w' := by
  have HT := Lib.hid hT; clear hT
  have i1 : ∀ w, (Instr.index 46 (.agg (tcells (kc ops))) (.int .i64 2)).run Try.prog w = .ok (.int .i64 (kc ops 2)) w := fun _ => by kernel_rfl
  go_enter Try.func23, Try.ntmps23
  go_wp2_with fail
  refine (tally_any _ oa oc ops ba bl bc _ (by exact Elems.below HT.out (below_al _ _)) hl).mono ?_
  rintro e w1 ⟨rfl, hb⟩
  have hB := Lib.hid ((below_al w _).trans (hb.mono (by rw [World.size_alloc]; exact Nat.le_succ _)))
  clear hb
  go_wp2_with fail
  go_ret
  exact ⟨rfl, hB.out⟩
end Go.Proofs.Ytdlmijcnjjdbbaa
