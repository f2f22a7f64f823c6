/- visorref18.Right for any trace; Tally of both. Conditions: each lemma's own. -/
import Derived.Test.YtdlmijcnjjdbbaaRr
namespace Go.Proofs.Ytdlmijcnjjdbbaa
open Go Go.RowKit

set_option maxRecDepth 100000 in
theorem tright_any (n : Int) (oa : Option Addr) (oc : Nat) (ops : List OpV) (ba : Option Addr) (bc : Nat) (l : List SpanV) (w : World) (hT : TraceAt w oa oc ops ba bc l) :
    Calls Try.prog 17 #[.agg #[.int .i64 n, .slice oa ops.length oc, .slice ba l.length bc]] w (TruePost (checkB n ops l) w) := by
  by_cases hn : n = 2 ∨ n = 3
  · by_cases hlen : ops.length ≤ 1048576
    · exact rright_loops n hn oa oc ops ba bc l hlen w hT
    · have E : Hid (checkB n ops l = false) := Lib.hid (by simp [checkB, hlen])
      clear hT
      have hn' : ((n != 2) = false) ∨ ((n != 2) = true ∧ (n != 3) = false) := by
        rcases hn with rfl | rfl
        · exact .inl rfl
        · exact .inr ⟨rfl, rfl⟩
      clear hn
      rcases hn' with n2 | ⟨n2, n3⟩
      all_goals
        go_enter Try.func17, Try.ntmps17
        go_wp2_with fail
        go_ret
        exact ⟨by rw [E.out]; rfl, by go_grown⟩
  · have E : Hid (checkB n ops l = false) := Lib.hid (by simp only [checkB, hn]; rfl)
    have n2 : (n != 2) = true := by simp; omega
    have n3 : (n != 3) = true := by simp; omega
    clear hT hn
    go_enter Try.func17, Try.ntmps17
    go_wp2_with fail
    go_ret
    exact ⟨by rw [E.out]; rfl, by go_grown⟩
end Go.Proofs.Ytdlmijcnjjdbbaa
