/- What an op makes: words as BitVec 64. -/
import Derived.Test.YtdlmijcnjjdbbaaOp
namespace Go.Proofs.Ytdlmijcnjjdbbaa
open Go Go.RowKit

abbrev W64 := BitVec 64
theorem toNat_lt (a : W64) : a.toNat < 18446744073709551616 := a.isLt
theorem wrap_u64 (n : Int) : IntKind.u64.wrap n = n % 18446744073709551616 := IntKind.wrap_u64 n
theorem ofInt_u64 (a : W64) : BitVec.ofInt 64 (a.toNat : Int) = a := by
  rw [BitVec.ofInt_natCast]; simp
/-- A word as a number; no rule of simp's looks into it. -/
def U (a : W64) : Int := (a.toNat : Int)
theorem U_nonneg (a : W64) : 0 ≤ U a := by unfold U; omega
theorem U_lt (a : W64) : U a < 18446744073709551616 := by have := toNat_lt a; unfold U; omega
theorem U_wf (a : W64) : (Lit.int .u64 (U a)).wf = true := by
  have h0 := U_nonneg a; have h1 := U_lt a
  simp [Lit.wf, IntKind.min, IntKind.max, IntKind.signed, IntKind.bits]; omega
theorem U_inj {a b : W64} (h : U a = U b) : a = b := by unfold U at h; exact BitVec.eq_of_toNat_eq (by omega)
theorem U_of {n : Int} (h : (Lit.int .u64 n).wf = true) : ∃ a : W64, n = U a := by
  have hb : 0 ≤ n ∧ n ≤ 18446744073709551615 := by simp [Lit.wf, IntKind.min, IntKind.max, IntKind.signed, IntKind.bits] at h; omega
  refine ⟨BitVec.ofNat 64 n.toNat, ?_⟩
  unfold U
  rw [BitVec.toNat_ofNat, Nat.mod_eq_of_lt (by omega)]
  omega
theorem wrap_U (a : W64) : IntKind.u64.wrap (U a) = U a := by have h0 := U_nonneg a; have h1 := U_lt a; rw [wrap_u64]; omega
theorem ofInt_U (a : W64) : BitVec.ofInt 64 (U a) = a := ofInt_u64 a
theorem bits_xor (a b : W64) : bits .xor .u64 (U a) (U b) = U (a ^^^ b) := by
  show IntKind.u64.wrap ((BitVec.ofInt 64 (U a) ^^^ BitVec.ofInt 64 (U b)).toNat : Int) = _
  rw [ofInt_U, ofInt_U]; exact wrap_U _
theorem bits_and (a b : W64) : bits .and .u64 (U a) (U b) = U (a &&& b) := by
  show IntKind.u64.wrap ((BitVec.ofInt 64 (U a) &&& BitVec.ofInt 64 (U b)).toNat : Int) = _
  rw [ofInt_U, ofInt_U]; exact wrap_U _
theorem bits_or (a b : W64) : bits .or .u64 (U a) (U b) = U (a ||| b) := by
  show IntKind.u64.wrap ((BitVec.ofInt 64 (U a) ||| BitVec.ofInt 64 (U b)).toNat : Int) = _
  rw [ofInt_U, ofInt_U]; exact wrap_U _
theorem shl_w (a : W64) (k : Nat) : IntKind.u64.wrap (U a * 2 ^ k) = U (a <<< k) := by
  unfold U
  rw [wrap_u64, BitVec.toNat_shiftLeft, Nat.shiftLeft_eq]
  have : ((a.toNat : Int) * 2 ^ k) = ((a.toNat * 2 ^ k : Nat) : Int) := by simp
  rw [this]
  generalize a.toNat * 2 ^ k = m
  omega
theorem shr_w (a : W64) (k : Nat) : U a / 2 ^ k = U (a >>> k) := by
  unfold U
  rw [BitVec.toNat_ushiftRight, Nat.shiftRight_eq_div_pow]
  simp
theorem and63 : ∀ k : Nat, k < 64 → bits .and .i64 (k : Int) 63 = (k : Int) := by decide +kernel
theorem U_mod (c : W64) : ∃ kk : Nat, kk < 64 ∧ U c % 64 = (kk : Int) ∧ c.toNat % 64 = kk := ⟨c.toNat % 64, by omega, by unfold U; omega, rfl⟩

theorem octRot_any (a : W64) (k : Nat) (hk : k < 64) (w : World) : Calls Try.prog 98 #[.int .u64 (U a), .int .i64 (k : Int)] w fun e w' => e = .returned (.int .u64 (U (a.rotateLeft k))) ∧ Below w.heap.size w w' := by
  have h63 := and63 k hk
  have h0 := U_nonneg a
  have E : Hid (bits .or .u64 (IntKind.u64.wrap (U a * 2 ^ k)) (U a / 2 ^ (64 - k)) = U (a.rotateLeft k)) := Lib.hid (by
    rw [shl_w, shr_w, bits_or, BitVec.rotateLeft_def, Nat.mod_eq_of_lt hk])
  go_enter Try.func98, Try.ntmps98
  go_wp2
  go_quiet (fail)
  go_wp2
  go_ret
  exact ⟨by rw [← E.out]; rfl, below_drewN' _⟩

/-- What an op makes. -/
def evalW (k : Int) (c a b d x : W64) : W64 :=
  if k = 1 then x else if k = 2 then x ^^^ a ^^^ b else if k = 3 ∨ k = 4 then c else if k = 5 then a ^^^ b else if k = 6 then ~~~a else if k = 7 then a &&& b else if k = 8 then a &&& c
  else if k = 9 then a <<< (c.toNat % 64) else if k = 10 then a >>> (c.toNat % 64) else if k = 11 then a.rotateLeft (c.toNat % 64) else if k = 12 then a ^^^ b ^^^ d else 0

theorem ret_u {k : IntKind} {a b : Int} (h : a = b) : Ending.returned (.int k a) = .returned (.int k b) := by rw [h]
/-- '^a'. -/
theorem max_U : IntKind.u64.max = U (BitVec.allOnes 64) := by unfold U; decide +kernel
theorem not_w (a : W64) : Op.unary .xor (.int .u64 (U a)) = pure (.int .u64 (U (~~~a))) := by
  have e : Op.unary .xor (.int .u64 (U a)) = Op.intBits .xor .u64 IntKind.u64.max (U a) := rfl
  rw [e, max_U]
  show (pure (.int .u64 (IntKind.u64.wrap ((BitVec.ofInt 64 (U (BitVec.allOnes 64)) ^^^ BitVec.ofInt 64 (U a)).toNat : Int))) : Sem Value) = _
  rw [ofInt_U, ofInt_U]
  have e2 : BitVec.allOnes 64 ^^^ a = ~~~a := BitVec.not_def.symm
  rw [e2]
  have e3 : (((~~~a).toNat : Nat) : Int) = U (~~~a) := rfl
  rw [e3, wrap_U]
def EvalPost (k : Int) (c a b d x : W64) (w : World) (e : Ending) (w' : World) : Prop := e = .returned (.int .u64 (U (evalW k c a b d x))) ∧ Below w.heap.size w w'
set_option maxRecDepth 100000 in
set_option maxHeartbeats 2000000 in
theorem eval_any (k dom ra rb rd : Int) (c a b d x : W64) (w : World) :
    Calls Try.prog 85 #[.agg #[.int .i64 k, .int .i64 dom, .int .i64 ra, .int .i64 rb, .int .i64 rd, .int .u64 (U c)], .int .u64 (U a), .int .u64 (U b), .int .u64 (U d), .int .u64 (U x)] w (EvalPost k c a b d x w) := by
  have x0 := bits_xor
  have a0 := bits_and
  have c0 := U_nonneg c
  have q0 := U_nonneg a
  obtain ⟨kk, hk64, hkk, hkn⟩ := U_mod c
  have HKN := Lib.hid hkn; clear hkn
  rcases kinds k with h | ⟨hk, hj⟩
  · rcases h with rfl | rfl | rfl | rfl | rfl | rfl | rfl | rfl | rfl | rfl | rfl | rfl
    · go_enter Try.func85, Try.ntmps85
      go_wp2
      go_ret
      exact ⟨ret_u (by simp [evalW]), by go_grown⟩
    · go_enter Try.func85, Try.ntmps85
      go_wp2
      go_ret
      exact ⟨ret_u (by simp [evalW]), by go_grown⟩
    · go_enter Try.func85, Try.ntmps85
      go_wp2
      go_ret
      exact ⟨ret_u (by simp [evalW]), by go_grown⟩
    · go_enter Try.func85, Try.ntmps85
      go_wp2
      go_ret
      exact ⟨ret_u (by simp [evalW]), by go_grown⟩
    · go_enter Try.func85, Try.ntmps85
      go_wp2
      go_ret
      exact ⟨ret_u (by simp [evalW]), by go_grown⟩
    · have n0 := not_w a
      clear x0 a0
      go_enter Try.func85, Try.ntmps85
      go_wp2
      go_ret
      exact ⟨ret_u (by simp [evalW]), by go_grown⟩
    · go_enter Try.func85, Try.ntmps85
      go_wp2
      go_ret
      exact ⟨ret_u (by simp [evalW]), by go_grown⟩
    · go_enter Try.func85, Try.ntmps85
      go_wp2
      go_ret
      exact ⟨ret_u (by simp [evalW]), by go_grown⟩
    · go_enter Try.func85, Try.ntmps85
      go_wp2
      go_ret
      exact ⟨ret_u (by rw [shl_w]; simp [evalW, HKN.out]), by go_grown⟩
    · go_enter Try.func85, Try.ntmps85
      go_wp2
      go_ret
      exact ⟨ret_u (by rw [shr_w]; simp [evalW, HKN.out]), by go_grown⟩
    · go_enter Try.func85, Try.ntmps85
      go_wp2_with (go_at_call 98; refine (octRot_any a kk hk64 _).mono ?_; rintro e w' ⟨rfl, hb⟩)
      go_ret
      exact ⟨ret_u (by simp [evalW, HKN.out]), ((Below.refl _ _).alloc (Nat.le_refl _) _).trans (hb.mono (by simp))⟩
    · go_enter Try.func85, Try.ntmps85
      go_wp2
      go_ret
      exact ⟨ret_u (by simp [evalW]), by go_grown⟩
  · have j1 := hj 1 (by omega) (by omega); have j2 := hj 2 (by omega) (by omega); have j3 := hj 3 (by omega) (by omega); have j4 := hj 4 (by omega) (by omega); have j5 := hj 5 (by omega) (by omega); have j6 := hj 6 (by omega) (by omega)
    have j7 := hj 7 (by omega) (by omega); have j8 := hj 8 (by omega) (by omega); have j9 := hj 9 (by omega) (by omega); have j10 := hj 10 (by omega) (by omega); have j11 := hj 11 (by omega) (by omega); have j12 := hj 12 (by omega) (by omega)
    have E : Hid (evalW k c a b d x = 0) := Lib.hid (by simp at j1 j2 j3 j4 j5 j6 j7 j8 j9 j10 j11 j12; simp [evalW, *])
    clear hj hk x0 a0
    go_enter Try.func85, Try.ntmps85
    go_wp2
    go_ret
    exact ⟨by rw [E.out]; rfl, by go_grown⟩
end Go.Proofs.Ytdlmijcnjjdbbaa
