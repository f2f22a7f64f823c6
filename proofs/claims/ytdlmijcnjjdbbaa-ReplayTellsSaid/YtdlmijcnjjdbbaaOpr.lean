/- visorref17: the document's own answer to what may stand where is the program's. Conditions: two or three shares. -/
import Derived.Test.YtdlmijcnjjdbbaaOp
namespace Go.Proofs.Ytdlmijcnjjdbbaa
open Go Go.RowKit

theorem rregs_any (k n : Int) (hn : n = 2 ∨ n = 3) (w : World) : Calls Try.prog 56 #[.int .i64 k, .int .i64 n] w fun e w' => e = .returned (.int .i64 (regsI k n)) ∧ w = w' := by
  rcases kinds k with h | ⟨hk, hj⟩
  · rcases hn with rfl | rfl
    all_goals
      rcases h with rfl | rfl | rfl | rfl | rfl | rfl | rfl | rfl | rfl | rfl | rfl | rfl
      all_goals
        go_enter Try.func56, Try.ntmps56
        go_wp2
        go_ret
        exact ⟨rfl, rfl⟩
  · have j2 := hj 2 (by omega) (by omega); have j5 := hj 5 (by omega) (by omega); have j6 := hj 6 (by omega) (by omega)
    have j7 := hj 7 (by omega) (by omega); have j8 := hj 8 (by omega) (by omega); have j9 := hj 9 (by omega) (by omega); have j10 := hj 10 (by omega) (by omega); have j11 := hj 11 (by omega) (by omega); have j12 := hj 12 (by omega) (by omega)
    have E : Hid (regsI k n = 0) := Lib.hid (by simp at j2 j5 j6 j7 j8 j9 j10 j11 j12; simp [regsI, *])
    clear hj hk
    rcases hn with rfl | rfl
    all_goals
      go_enter Try.func56, Try.ntmps56
      go_wp2
      go_ret
      exact ⟨by rw [E.out]; rfl, rfl⟩

set_option maxHeartbeats 2000000 in
theorem rright_no (o : OpV) (at' n : Int) (hn : n = 2 ∨ n = 3) (hh : headB o n = false) (w : World) :
    Calls Try.prog 31 #[.agg #[.int .i64 o.kind, .int .i64 o.dom, .int .i64 o.a, .int .i64 o.b, .int .i64 o.d, .int .u64 o.c], .int .i64 at', .int .i64 n] w (RightPost o at' n w) := by
  have E : Hid (rightB o at' n = false) := Lib.hid (by simp [rightB, hh])
  obtain ⟨k, dom, a, b, d, c⟩ := o
  have hp := head_parts ⟨k, dom, a, b, d, c⟩ n
  rw [hh] at hp
  dsimp only at hp ⊢
  have hcases : k < 1 ∨ (1 ≤ k ∧ 12 < k) ∨ (1 ≤ k ∧ k ≤ 12 ∧ dom < -1) ∨ (1 ≤ k ∧ k ≤ 12 ∧ -1 ≤ dom ∧ n ≤ dom) ∨ (-1 ≤ dom ∧ dom < n ∧ (dom != -1) = true ∧ k = 12) := by
    by_cases h0 : k < 1
    · exact .inl h0
    · by_cases h00 : 12 < k
      · exact .inr (.inl ⟨by omega, h00⟩)
      · have hk : isK k = true := by simp [isK]; omega
        simp [hk] at hp
        by_cases h1 : dom < -1
        · exact .inr (.inr (.inl ⟨by omega, by omega, h1⟩))
        · by_cases h2 : n ≤ dom
          · exact .inr (.inr (.inr (.inl ⟨by omega, by omega, by omega, h2⟩)))
          · have := hp (by omega) (by omega)
            exact .inr (.inr (.inr (.inr ⟨by omega, by omega, by simp; omega, this.1⟩)))
  clear hp hh
  rcases hcases with h1 | ⟨h1, h2⟩ | ⟨h1, h2, h3⟩ | ⟨h1, h2, h3, h4⟩ | ⟨h1, h2, h3, rfl⟩
  all_goals
    rcases hn with rfl | rfl
    all_goals
      go_enter Try.func31, Try.ntmps31
      go_wp2
      go_ret
      exact ⟨by rw [E.out]; rfl, by go_grown⟩

end Go.Proofs.Ytdlmijcnjjdbbaa
