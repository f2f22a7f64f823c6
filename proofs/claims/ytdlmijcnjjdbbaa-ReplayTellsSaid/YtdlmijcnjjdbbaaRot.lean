/- visorref01: turning words, and lowest bits. Conditions: from 0 to 64. -/
import Derived.Test.YtdlmijcnjjdbbaaEv
namespace Go.Proofs.Ytdlmijcnjjdbbaa
open Go Go.RowKit

theorem mod_any (k : Nat) (hk : k ≤ 64) (w : World) : Calls Try.prog 88 #[.int .i64 (k : Int), .int .i64 64] w fun e w' => e = .returned (.int .i64 ((k % 64 : Nat) : Int)) ∧ w = w' := by
  go_enter Try.func88, Try.ntmps88
  go_wp2
  go_ret
  exact ⟨ret_u (by simp; try omega), rfl⟩

/-- The lowest j bits. -/
def lowW (j : Nat) : W64 := BitVec.ofNat 64 (2 ^ j - 1)

theorem add_w (a b : W64) : IntKind.u64.wrap (U a + U b) = U (a + b) := by
  unfold U
  rw [wrap_u64, BitVec.toNat_add]
  have := toNat_lt a; have := toNat_lt b
  omega
theorem rot_or (x : W64) : x <<< 1 + x >>> 63 = x.rotateLeft 1 := by
  rw [BitVec.rotateLeft_def, BitVec.add_eq_or_of_and_eq_zero]
  ext i hi
  simp
  intro h0 _
  exact BitVec.getLsbD_of_ge _ _ (by omega)
theorem rot_step (x : W64) : IntKind.u64.wrap (IntKind.u64.wrap (U x * 2) + IntKind.u64.wrap ((U x).tdiv 9223372036854775808)) = U (x.rotateLeft 1) := by
  have h0 := U_nonneg x
  have e1 : IntKind.u64.wrap (U x * 2) = U (x <<< 1) := by rw [← shl_w]; rfl
  have e2 : (U x).tdiv 9223372036854775808 = U (x >>> 63) := by
    rw [Int.tdiv_eq_ediv_of_nonneg h0, ← shr_w]
    rfl
  rw [e1, e2, wrap_U, add_w, rot_or]
theorem rot_zero (a : W64) : a.rotateLeft 0 = a := by
  rw [BitVec.rotateLeft_def]
  have e : a >>> (64 - 0 % 64) = 0#64 := by ext i hi; simp
  rw [e]; simp
theorem rot_succ (a : W64) (j : Nat) (hj : j + 1 < 64) : (a.rotateLeft j).rotateLeft 1 = a.rotateLeft (j + 1) := by
  ext i hi
  simp only [BitVec.getElem_rotateLeft]
  by_cases h1 : i < 1
  · rw [dif_pos (by omega), dif_neg (by omega), dif_pos (by omega)]
    congr 1
    omega
  · rw [dif_neg (by omega)]
    by_cases h2 : i < j + 1
    · rw [dif_pos (by omega), dif_pos (by omega)]
      congr 1
      omega
    · rw [dif_neg (by omega), dif_neg (by omega)]
      congr 1
      omega
theorem low_nat (j : Nat) (hj : j ≤ 64) : U (lowW j) = ((2 ^ j - 1 : Nat) : Int) := by
  unfold U lowW
  rw [BitVec.toNat_ofNat, Nat.mod_eq_of_lt]
  have := Nat.pow_le_pow_right (n := 2) (by omega) hj
  have := Nat.pow_pos (n := j) (show 0 < 2 by omega)
  omega
theorem low_step (j : Nat) (hj : j < 64) : IntKind.u64.wrap (IntKind.u64.wrap (U (lowW j) * 2) + 1) = U (lowW (j + 1)) := by
  rw [low_nat j (by omega), low_nat (j + 1) (by omega), wrap_u64, wrap_u64, Nat.pow_succ]
  have h1 := Nat.pow_le_pow_right (n := 2) (by omega) (show j + 1 ≤ 64 by omega)
  rw [Nat.pow_succ] at h1
  have := Nat.pow_pos (n := j) (show 0 < 2 by omega)
  generalize 2 ^ j = m at *
  omega

theorem rot_any (a : W64) (k : Nat) (hk : k ≤ 64) (w : World) : Calls Try.prog 54 #[.int .u64 (U a), .int .i64 (k : Int)] w fun e w' => e = .returned (.int .u64 (U (a.rotateLeft (k % 64)))) ∧ w = w' := by
  have hm : k % 64 < 64 := by omega
  obtain ⟨m, HM⟩ : ∃ m, Hid (k % 64 = m) := ⟨_, Lib.hid rfl⟩
  rw [HM.out] at hm ⊢
  go_enter Try.func54, Try.ntmps54
  go_wp2
  go_loop [0, 5] (fun x i => ∃ j : Nat, j ≤ m ∧ i = .int .i64 j ∧ x = .int .u64 (U (a.rotateLeft j))) (fun _ i => m - (intOf i).toNat)
  case atStart => exact ⟨0, by omega, rfl, by rw [rot_zero]⟩
  case round =>
    obtain ⟨j, hj, rfl, rfl⟩ := hrel
    have q0 := U_nonneg (a.rotateLeft j)
    by_cases hlt : j < m
    · go_wp2_with (go_at_call 88; refine (mod_any k hk _).mono ?_; rintro e w' ⟨he, rfl⟩; rw [HM.out] at he; subst he)
      go_round
      case rel =>
        exact ⟨j + 1, by omega, by go_num, by rw [rot_step, rot_succ a j (by omega)]⟩
      case measure => simp [intOf]; omega
    · obtain rfl : j = m := by omega
      go_wp2_with (go_at_call 88; refine (mod_any k hk _).mono ?_; rintro e w' ⟨he, rfl⟩; rw [HM.out] at he; subst he)
      go_ret
      exact ⟨rfl, rfl⟩
theorem low_any (n : Nat) (hn : n ≤ 64) (w : World) : Calls Try.prog 55 #[.int .i64 (n : Int)] w fun e w' => e = .returned (.int .u64 (U (lowW n))) ∧ w = w' := by
  go_enter Try.func55, Try.ntmps55
  go_wp2
  go_loop [3, 4] (fun x i => ∃ j : Nat, j ≤ n ∧ i = .int .i64 j ∧ x = .int .u64 (U (lowW j))) (fun _ i => n - (intOf i).toNat)
  case atStart => exact ⟨0, by omega, rfl, rfl⟩
  case round =>
    obtain ⟨j, hj, rfl, rfl⟩ := hrel
    have q0 := U_nonneg (lowW j)
    by_cases hlt : j < n
    · have h64 : j < 64 := by omega
      go_wp2
      go_round
      case rel =>
        exact ⟨j + 1, by omega, by go_num, by rw [low_step j (by omega)]⟩
      case measure => simp [intOf]; omega
    · obtain rfl : j = n := by omega
      go_wp2
      go_ret
      exact ⟨rfl, rfl⟩
end Go.Proofs.Ytdlmijcnjjdbbaa
