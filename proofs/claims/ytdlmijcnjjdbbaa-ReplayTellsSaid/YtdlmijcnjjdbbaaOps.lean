/- visorref17: the document's own answer to what may stand where is the program's: the second half. Conditions: two or three shares. -/
import Derived.Test.YtdlmijcnjjdbbaaOpr
namespace Go.Proofs.Ytdlmijcnjjdbbaa
open Go Go.RowKit

set_option maxRecDepth 100000 in
set_option maxHeartbeats 4000000 in
theorem rright_yes (o : OpV) (at' n : Int) (hn : n = 2 ∨ n = 3) (hh : headB o n = true) (w : World) :
    Calls Try.prog 31 #[.agg #[.int .i64 o.kind, .int .i64 o.dom, .int .i64 o.a, .int .i64 o.b, .int .i64 o.d, .int .u64 o.c], .int .i64 at', .int .i64 n] w (RightPost o at' n w) := by
  obtain ⟨k, dom, a, b, d, c⟩ := o
  have hp := (head_parts ⟨k, dom, a, b, d, c⟩ n).1 hh
  dsimp only at hp ⊢
  obtain ⟨hk, h1, h2, h3⟩ := hp
  have hk1 : 1 ≤ k ∧ k ≤ 12 := by simpa [isK] using hk
  obtain ⟨k1, k2⟩ := hk1
  have HH := Lib.hid hh
  clear hh hk
  have h12 : (k == 12) = false ∨ ((k == 12) = true ∧ (dom != -1) = false) := by
    by_cases e : k = 12
    · exact .inr ⟨by simpa using e, by simp; omega⟩
    · exact .inl (by simpa using e)
  clear h3
  obtain ⟨of, hof⟩ : ∃ of, Hid (regsI k n = of) := ⟨_, Lib.hid rfl⟩
  rcases h12 with h12 | ⟨h12, h13⟩
  all_goals
    have H12 := Lib.hid h12
    rcases hn with rfl | rfl
    all_goals
      go_enter Try.func31, Try.ntmps31
      go_wp2
      clear h1 h2 h12
      go_loop [8] (fun i => ∃ j : Nat, j ≤ 3 ∧ i = .int .i64 j ∧ Hid ((0 < j → regOK 0 of a at' = true) ∧ (1 < j → regOK 1 of b at' = true) ∧ (2 < j → regOK 2 of d at' = true))) (fun i => 3 - (intOf i).toNat)
      case atStart => exact ⟨0, by omega, rfl, by unfold Hid; simp⟩
      case round =>
        obtain ⟨j, hj, rfl, hr⟩ := hrel
        have hc : j = 0 ∨ j = 1 ∨ j = 2 ∨ j = 3 := by omega
        clear hj
        rcases hc with rfl | rfl | rfl | rfl
        · rcases reg_cases 0 of a at' with ⟨c1, c2, c3, g⟩ | ⟨c1, c2, g⟩ | ⟨c1, c2, c3, g⟩ | ⟨c1, c2, g⟩ | ⟨c1, c2, g⟩
          all_goals go_wp2_with (go_at_call 56; refine (rregs_any _ _ (by decide) _).mono ?_; rintro e w' ⟨he, rfl⟩; rw [hof.out] at he; subst he)
          · go_round
            case rel => exact ⟨1, by omega, rfl, by have := g.out; unfold Hid; simp [this]⟩
            case measure => simp [intOf]
          · go_ret
            exact ⟨by rw [right_bad0 (o := ⟨k, dom, a, b, d, c⟩) hof.out g.out]; rfl, by go_grown⟩
          · go_ret
            exact ⟨by rw [right_bad0 (o := ⟨k, dom, a, b, d, c⟩) hof.out g.out]; rfl, by go_grown⟩
          · go_round
            case rel => exact ⟨1, by omega, rfl, by have := g.out; unfold Hid; simp [this]⟩
            case measure => simp [intOf]
          · go_ret
            exact ⟨by rw [right_bad0 (o := ⟨k, dom, a, b, d, c⟩) hof.out g.out]; rfl, by go_grown⟩
        · rcases reg_cases 1 of b at' with ⟨c1, c2, c3, g⟩ | ⟨c1, c2, g⟩ | ⟨c1, c2, c3, g⟩ | ⟨c1, c2, g⟩ | ⟨c1, c2, g⟩
          all_goals go_wp2_with (go_at_call 56; refine (rregs_any _ _ (by decide) _).mono ?_; rintro e w' ⟨he, rfl⟩; rw [hof.out] at he; subst he)
          · go_round
            case rel => exact ⟨2, by omega, rfl, by have := g.out; have h := hr.out.1 (by omega); unfold Hid; simp [this, h]⟩
            case measure => simp [intOf]
          · go_ret
            exact ⟨by rw [right_bad1 (o := ⟨k, dom, a, b, d, c⟩) hof.out g.out]; rfl, by go_grown⟩
          · go_ret
            exact ⟨by rw [right_bad1 (o := ⟨k, dom, a, b, d, c⟩) hof.out g.out]; rfl, by go_grown⟩
          · go_round
            case rel => exact ⟨2, by omega, rfl, by have := g.out; have h := hr.out.1 (by omega); unfold Hid; simp [this, h]⟩
            case measure => simp [intOf]
          · go_ret
            exact ⟨by rw [right_bad1 (o := ⟨k, dom, a, b, d, c⟩) hof.out g.out]; rfl, by go_grown⟩
        · rcases reg_cases 2 of d at' with ⟨c1, c2, c3, g⟩ | ⟨c1, c2, g⟩ | ⟨c1, c2, c3, g⟩ | ⟨c1, c2, g⟩ | ⟨c1, c2, g⟩
          all_goals go_wp2_with (go_at_call 56; refine (rregs_any _ _ (by decide) _).mono ?_; rintro e w' ⟨he, rfl⟩; rw [hof.out] at he; subst he)
          · go_round
            case rel => exact ⟨3, by omega, rfl, by have := g.out; have h := hr.out.1 (by omega); have h' := hr.out.2.1 (by omega); unfold Hid; simp [this, h, h']⟩
            case measure => simp [intOf]
          · go_ret
            exact ⟨by rw [right_bad2 (o := ⟨k, dom, a, b, d, c⟩) hof.out g.out]; rfl, by go_grown⟩
          · go_ret
            exact ⟨by rw [right_bad2 (o := ⟨k, dom, a, b, d, c⟩) hof.out g.out]; rfl, by go_grown⟩
          · go_round
            case rel => exact ⟨3, by omega, rfl, by have := g.out; have h := hr.out.1 (by omega); have h' := hr.out.2.1 (by omega); unfold Hid; simp [this, h, h']⟩
            case measure => simp [intOf]
          · go_ret
            exact ⟨by rw [right_bad2 (o := ⟨k, dom, a, b, d, c⟩) hof.out g.out]; rfl, by go_grown⟩
        · have g := right_good (o := ⟨k, dom, a, b, d, c⟩) HH.out hof.out (hr.out.1 (by omega)) (hr.out.2.1 (by omega)) (hr.out.2.2 (by omega))
          have G := Lib.hid g; clear g hr hof HH
          have hc : k = 1 ∨ k = 2 ∨ k = 3 ∨ k = 4 ∨ k = 5 ∨ k = 6 ∨ k = 7 ∨ k = 8 ∨ k = 9 ∨ k = 10 ∨ k = 11 ∨ k = 12 := by omega
          clear k1 k2
          rcases hc with rfl | rfl | rfl | rfl | rfl | rfl | rfl | rfl | rfl | rfl | rfl | rfl
          all_goals first | (exfalso; exact Bool.noConfusion H12.out) | skip
          all_goals
            go_wp2
            go_ret
            exact ⟨by rw [G.out]; simp [constB]; try rfl, by go_grown⟩
theorem rright_any (o : OpV) (at' n : Int) (hn : n = 2 ∨ n = 3) (w : World) :
    Calls Try.prog 31 #[.agg #[.int .i64 o.kind, .int .i64 o.dom, .int .i64 o.a, .int .i64 o.b, .int .i64 o.d, .int .u64 o.c], .int .i64 at', .int .i64 n] w (RightPost o at' n w) := by
  cases hh : headB o n
  · exact rright_no o at' n hn hh w
  · exact rright_yes o at' n hn hh w
end Go.Proofs.Ytdlmijcnjjdbbaa
