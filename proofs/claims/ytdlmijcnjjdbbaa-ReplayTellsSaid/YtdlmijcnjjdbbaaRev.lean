/- visorref17: the document's own answer to what an op makes is the program's. Conditions: none. -/
import Derived.Test.YtdlmijcnjjdbbaaRot
namespace Go.Proofs.Ytdlmijcnjjdbbaa
open Go Go.RowKit

theorem low_get (n i : Nat) (hi : i < 64) : (lowW n)[i] = decide (i < n) := by
  unfold lowW
  rw [← BitVec.getLsbD_eq_getElem, BitVec.getLsbD_ofNat, Nat.testBit_two_pow_sub_one]
  simp [hi]
theorem rshl (a : W64) (k : Nat) (hk : k < 64) : (a &&& lowW (64 - k)).rotateLeft k = a <<< k := by
  ext i hi
  simp only [BitVec.getElem_rotateLeft, BitVec.getElem_and, low_get, BitVec.getElem_shiftLeft]
  by_cases h : i < k
  · rw [dif_pos (by omega)]
    have : decide (64 - k % 64 + i < 64 - k) = false := by simp; omega
    rw [this, decide_eq_true h]
    simp
  · rw [dif_neg (by omega)]
    have e1 : decide (i - k % 64 < 64 - k) = true := by simp; omega
    rw [e1, decide_eq_false h]
    simp
    congr 1
    omega
theorem rshr (a : W64) (k : Nat) (hk : k < 64) : a.rotateLeft (64 - k) &&& lowW (64 - k) = a >>> k := by
  ext i hi
  simp only [BitVec.getElem_rotateLeft, BitVec.getElem_and, low_get, BitVec.getElem_ushiftRight]
  by_cases h : i < 64 - k
  · rw [decide_eq_true h, Bool.and_true]
    by_cases h0 : k = 0
    · subst h0
      rw [dif_neg (by omega)]
      rw [BitVec.getLsbD_eq_getElem (by omega)]
      congr 1
      omega
    · rw [dif_pos (by omega), BitVec.getLsbD_eq_getElem (by omega)]
      congr 1
      omega
  · rw [decide_eq_false h, Bool.and_false, BitVec.getLsbD_of_ge _ _ (by omega)]
theorem rnot (a : W64) : IntKind.u64.wrap (18446744073709551615 - U a) = U (~~~a) := by
  unfold U
  rw [wrap_u64, BitVec.toNat_not]
  have := toNat_lt a
  omega

set_option maxRecDepth 100000 in
set_option maxHeartbeats 2000000 in
theorem reval_any (k dom ra rb rd : Int) (c a b d x : W64) (w : World) :
    Calls Try.prog 27 #[.agg #[.int .i64 k, .int .i64 dom, .int .i64 ra, .int .i64 rb, .int .i64 rd, .int .u64 (U c)], .int .u64 (U a), .int .u64 (U b), .int .u64 (U d), .int .u64 (U x)] w (EvalPost k c a b d x w) := by
  have x0 := bits_xor
  have a0 := bits_and
  have c0 := U_nonneg c
  have q0 := U_nonneg a
  obtain ⟨kk, hk64, hkk, hkn⟩ := U_mod c
  have HKN := Lib.hid hkn; clear hkn
  have h64 : (64 : Int) - (kk : Int) = ((64 - kk : Nat) : Int) := by omega
  rcases kinds k with h | ⟨hk, hj⟩
  · rcases h with rfl | rfl | rfl | rfl | rfl | rfl | rfl | rfl | rfl | rfl | rfl | rfl
    · go_enter Try.func27, Try.ntmps27
      go_wp2
      go_ret
      exact ⟨ret_u (by simp [evalW]), by go_grown⟩
    · go_enter Try.func27, Try.ntmps27
      go_wp2
      go_ret
      exact ⟨ret_u (by simp [evalW]), by go_grown⟩
    · go_enter Try.func27, Try.ntmps27
      go_wp2
      go_ret
      exact ⟨ret_u (by simp [evalW]), by go_grown⟩
    · go_enter Try.func27, Try.ntmps27
      go_wp2
      go_ret
      exact ⟨ret_u (by simp [evalW]), by go_grown⟩
    · go_enter Try.func27, Try.ntmps27
      go_wp2
      go_ret
      exact ⟨ret_u (by simp [evalW]), by go_grown⟩
    · clear x0 a0
      go_enter Try.func27, Try.ntmps27
      go_wp2
      go_ret
      exact ⟨ret_u (by rw [rnot]; simp [evalW]), by go_grown⟩
    · go_enter Try.func27, Try.ntmps27
      go_wp2
      go_ret
      exact ⟨ret_u (by simp [evalW]), by go_grown⟩
    · go_enter Try.func27, Try.ntmps27
      go_wp2
      go_ret
      exact ⟨ret_u (by simp [evalW]), by go_grown⟩
    · go_enter Try.func27, Try.ntmps27
      go_wp2_with (first
        | (go_at_call 55; refine (low_any (64 - kk) (by omega) _).mono ?_; rintro e w' ⟨rfl, rfl⟩)
        | (go_at_call 54; refine (rot_any (a &&& lowW (64 - kk)) kk (by omega) _).mono ?_; rintro e w' ⟨rfl, rfl⟩))
      go_ret
      exact ⟨ret_u (by rw [rshl a kk hk64]; simp [evalW, HKN.out]), by go_grown⟩
    · go_enter Try.func27, Try.ntmps27
      go_wp2_with (first
        | (go_at_call 55; refine (low_any (64 - kk) (by omega) _).mono ?_; rintro e w' ⟨rfl, rfl⟩)
        | (go_at_call 54; refine (rot_any a (64 - kk) (by omega) _).mono ?_; rintro e w' ⟨rfl, rfl⟩))
      go_ret
      exact ⟨ret_u (by rw [rshr a kk hk64]; simp [evalW, HKN.out]), by go_grown⟩
    · go_enter Try.func27, Try.ntmps27
      go_wp2_with (go_at_call 54; refine (rot_any a kk (by omega) _).mono ?_; rintro e w' ⟨rfl, rfl⟩)
      go_ret
      exact ⟨ret_u (by simp [evalW, HKN.out]), by go_grown⟩
    · go_enter Try.func27, Try.ntmps27
      go_wp2
      go_ret
      exact ⟨ret_u (by simp [evalW]), by go_grown⟩
  · have j1 := hj 1 (by omega) (by omega); have j2 := hj 2 (by omega) (by omega); have j3 := hj 3 (by omega) (by omega); have j4 := hj 4 (by omega) (by omega); have j5 := hj 5 (by omega) (by omega); have j6 := hj 6 (by omega) (by omega)
    have j7 := hj 7 (by omega) (by omega); have j8 := hj 8 (by omega) (by omega); have j9 := hj 9 (by omega) (by omega); have j10 := hj 10 (by omega) (by omega); have j11 := hj 11 (by omega) (by omega); have j12 := hj 12 (by omega) (by omega)
    have E : Hid (evalW k c a b d x = 0) := Lib.hid (by simp at j1 j2 j3 j4 j5 j6 j7 j8 j9 j10 j11 j12; simp [evalW, *])
    clear hj hk x0 a0
    go_enter Try.func27, Try.ntmps27
    go_wp2
    go_ret
    exact ⟨by rw [E.out]; rfl, by go_grown⟩
end Go.Proofs.Ytdlmijcnjjdbbaa
