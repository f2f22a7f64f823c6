/- op and visorref17: what may stand where. Conditions: two or three shares; each lemma's own. -/
import Derived.Test.YtdlmijcnjjdbbaaRows
import Derived.Test.YtdlmijcnjjdbbaaWa
namespace Go.Proofs.Ytdlmijcnjjdbbaa
open Go Go.RowKit

/-- An op's numbers. -/
structure OpV where
  kind : Int
  dom : Int
  a : Int
  b : Int
  d : Int
  c : Int
def OpV.cells (o : OpV) : List Value := [.int .i64 o.kind, .int .i64 o.dom, .int .i64 o.a, .int .i64 o.b, .int .i64 o.d, .int .u64 o.c]
structure OpV.Wf (o : OpV) : Prop where
  kind : (Lit.int .i64 o.kind).wf = true
  dom : (Lit.int .i64 o.dom).wf = true
  a : (Lit.int .i64 o.a).wf = true
  b : (Lit.int .i64 o.b).wf = true
  d : (Lit.int .i64 o.d).wf = true
  c : (Lit.int .u64 o.c).wf = true

def isK (k : Int) : Bool := decide (1 ≤ k ∧ k ≤ 12)
def regsI (k n : Int) : Int :=
  if k = 2 then n - 1 else if k = 5 ∨ k = 7 then 2 else if k = 6 ∨ k = 8 ∨ k = 9 ∨ k = 10 ∨ k = 11 then 1 else if k = 12 then n else 0
def constB (k c : Int) : Bool :=
  if k = 9 ∨ k = 10 ∨ k = 11 then decide (c < 64) else if k = 2 then decide (c < 1048576) else if k = 3 ∨ k = 4 ∨ k = 8 then true else decide (c = 0)
def regOK (i of r at' : Int) : Bool := if i < of then decide (0 ≤ r ∧ r < at') else decide (r = -1)
def headB (o : OpV) (n : Int) : Bool := isK o.kind && decide (-1 ≤ o.dom) && decide (o.dom < n) && !(decide (o.kind = 12) && decide (0 ≤ o.dom))
def rightB (o : OpV) (at' n : Int) : Bool :=
  headB o n && regOK 0 (regsI o.kind n) o.a at' && regOK 1 (regsI o.kind n) o.b at' && regOK 2 (regsI o.kind n) o.d at' && constB o.kind o.c

theorem is_any (k : Int) (w : World) : Calls Try.prog 80 #[.int .i64 k] w fun e w' => e = .returned (.bool (isK k)) ∧ w = w' := by
  by_cases h : 1 ≤ k
  · by_cases h2 : k ≤ 12
    all_goals
      go_enter Try.func80, Try.ntmps80
      go_wp2
      go_ret
      exact ⟨by simp [isK, *], rfl⟩
  · have h2 : ¬ (1 ≤ k ∧ k ≤ 12) := by omega
    go_enter Try.func80, Try.ntmps80
    go_wp2
    go_ret
    exact ⟨by simp [isK, *], rfl⟩

/-- A kind is one of twelve, or none. -/
theorem kinds (k : Int) : (k = 1 ∨ k = 2 ∨ k = 3 ∨ k = 4 ∨ k = 5 ∨ k = 6 ∨ k = 7 ∨ k = 8 ∨ k = 9 ∨ k = 10 ∨ k = 11 ∨ k = 12) ∨ (isK k = false ∧ ∀ j : Int, 1 ≤ j → j ≤ 12 → (k == j) = false) := by
  by_cases h : 1 ≤ k ∧ k ≤ 12
  · omega
  · exact .inr ⟨by simp only [isK, decide_eq_false_iff_not]; exact h, fun j h1 h2 => by simp; omega⟩

theorem regs_any (k n : Int) (hn : n = 2 ∨ n = 3) (w : World) : Calls Try.prog 81 #[.int .i64 k, .int .i64 n] w fun e w' => e = .returned (.int .i64 (regsI k n)) ∧ w = w' := by
  rcases kinds k with h | ⟨hk, hj⟩
  · rcases hn with rfl | rfl
    all_goals
      rcases h with rfl | rfl | rfl | rfl | rfl | rfl | rfl | rfl | rfl | rfl | rfl | rfl
      all_goals
        go_enter Try.func81, Try.ntmps81
        go_wp2
        go_ret
        exact ⟨rfl, rfl⟩
  · have j2 := hj 2 (by omega) (by omega); have j5 := hj 5 (by omega) (by omega); have j6 := hj 6 (by omega) (by omega)
    have j7 := hj 7 (by omega) (by omega); have j8 := hj 8 (by omega) (by omega); have j9 := hj 9 (by omega) (by omega); have j10 := hj 10 (by omega) (by omega); have j11 := hj 11 (by omega) (by omega); have j12 := hj 12 (by omega) (by omega)
    have E : Hid (regsI k n = 0) := Lib.hid (by simp at j2 j5 j6 j7 j8 j9 j10 j11 j12; simp [regsI, *])
    clear hj hk
    rcases hn with rfl | rfl
    all_goals
      go_enter Try.func81, Try.ntmps81
      go_wp2
      go_ret
      exact ⟨by rw [E.out]; rfl, rfl⟩

theorem const_any (o : OpV) (w : World) : Calls Try.prog 82 #[.agg #[.int .i64 o.kind, .int .i64 o.dom, .int .i64 o.a, .int .i64 o.b, .int .i64 o.d, .int .u64 o.c]] w fun e w' => e = .returned (.bool (constB o.kind o.c)) ∧ Below w.heap.size w w' := by
  obtain ⟨k, dom, a, b, d, c⟩ := o
  dsimp only
  rcases kinds k with h | ⟨hk, hj⟩
  · rcases h with rfl | rfl | rfl | rfl | rfl | rfl | rfl | rfl | rfl | rfl | rfl | rfl
    all_goals
      go_enter Try.func82, Try.ntmps82
      go_wp2
      go_ret
      exact ⟨by simp [constB]; try rfl, by go_grown⟩
  · have j2 := hj 2 (by omega) (by omega); have j3 := hj 3 (by omega) (by omega); have j4 := hj 4 (by omega) (by omega)
    have j8 := hj 8 (by omega) (by omega); have j9 := hj 9 (by omega) (by omega); have j10 := hj 10 (by omega) (by omega); have j11 := hj 11 (by omega) (by omega)
    have E : Hid (constB k c = decide (c = 0)) := Lib.hid (by simp at j2 j3 j4 j8 j9 j10 j11; simp [constB, *])
    clear hj hk
    go_enter Try.func82, Try.ntmps82
    go_wp2
    go_ret
    exact ⟨by rw [E.out]; simp; try rfl, by go_grown⟩

/-- What the op's head says, in the walk's own spelling. -/
theorem head_parts (o : OpV) (n : Int) : headB o n = true ↔ isK o.kind = true ∧ -1 ≤ o.dom ∧ o.dom < n ∧ ¬ (o.kind = 12 ∧ 0 ≤ o.dom) := by
  unfold headB
  simp only [Bool.and_eq_true, decide_eq_true_eq, Bool.not_eq_true', Bool.and_eq_false_iff, decide_eq_false_iff_not]
  constructor
  · rintro ⟨⟨⟨h1, h2⟩, h3⟩, h4⟩
    exact ⟨h1, h2, h3, fun ⟨ha, hb⟩ => h4.elim (fun h => h ha) (fun h => h hb)⟩
  · rintro ⟨h1, h2, h3, h4⟩
    refine ⟨⟨⟨h1, h2⟩, h3⟩, ?_⟩
    by_cases ha : o.kind = 12
    · exact .inr fun hb => h4 ⟨ha, hb⟩
    · exact .inl ha

def RightPost (o : OpV) (at' n : Int) (w : World) (e : Ending) (w' : World) : Prop := e = .returned (.bool (rightB o at' n)) ∧ Below w.heap.size w w'

theorem right_no (o : OpV) (at' n : Int) (hn : n = 2 ∨ n = 3) (hh : headB o n = false) (w : World) :
    Calls Try.prog 51 #[.agg #[.int .i64 o.kind, .int .i64 o.dom, .int .i64 o.a, .int .i64 o.b, .int .i64 o.d, .int .u64 o.c], .int .i64 at', .int .i64 n] w (RightPost o at' n w) := by
  have E : Hid (rightB o at' n = false) := Lib.hid (by simp [rightB, hh])
  obtain ⟨k, dom, a, b, d, c⟩ := o
  have hp := head_parts ⟨k, dom, a, b, d, c⟩ n
  rw [hh] at hp
  dsimp only at hp ⊢
  have hcases : isK k = false ∨ (isK k = true ∧ dom < -1) ∨ (isK k = true ∧ -1 ≤ dom ∧ n ≤ dom) ∨ (isK k = true ∧ -1 ≤ dom ∧ dom < n ∧ 0 ≤ dom ∧ k = 12) := by
    cases hk : isK k
    · exact .inl rfl
    · simp [hk] at hp
      by_cases h1 : dom < -1
      · exact .inr (.inl ⟨rfl, h1⟩)
      · by_cases h2 : n ≤ dom
        · exact .inr (.inr (.inl ⟨rfl, by omega, h2⟩))
        · have := hp (by omega) (by omega)
          exact .inr (.inr (.inr ⟨rfl, by omega, by omega, this.2, this.1⟩))
  clear hp hh
  rcases hcases with hk | ⟨hk, h1⟩ | ⟨hk, h1, h2⟩ | ⟨hk, h1, h2, h3, rfl⟩
  all_goals
    have HK := Lib.hid hk; clear hk
    rcases hn with rfl | rfl
    all_goals
      go_enter Try.func51, Try.ntmps51
      go_wp2_with (go_at_call 80; refine (is_any _ _).mono ?_; rintro e w' ⟨he, rfl⟩; rw [HK.out] at he; subst he)
      go_ret
      exact ⟨by rw [E.out]; rfl, by go_grown⟩


theorem right_bad0 {o : OpV} {at' n of : Int} (hof : regsI o.kind n = of) (h : regOK 0 of o.a at' = false) : rightB o at' n = false := by simp [rightB, hof, h]
theorem right_bad1 {o : OpV} {at' n of : Int} (hof : regsI o.kind n = of) (h : regOK 1 of o.b at' = false) : rightB o at' n = false := by simp [rightB, hof, h]
theorem right_bad2 {o : OpV} {at' n of : Int} (hof : regsI o.kind n = of) (h : regOK 2 of o.d at' = false) : rightB o at' n = false := by simp [rightB, hof, h]
theorem right_good {o : OpV} {at' n of : Int} (hh : headB o n = true) (hof : regsI o.kind n = of) (h0 : regOK 0 of o.a at' = true) (h1 : regOK 1 of o.b at' = true) (h2 : regOK 2 of o.d at' = true) : rightB o at' n = constB o.kind o.c := by
  simp [rightB, hh, hof, h0, h1, h2]
/-- How a register is asked, in the walk's own spelling. -/
theorem reg_cases (i of r at' : Int) : (i < of ∧ 0 ≤ r ∧ r < at' ∧ Hid (regOK i of r at' = true)) ∨ (i < of ∧ r < 0 ∧ Hid (regOK i of r at' = false)) ∨ (i < of ∧ 0 ≤ r ∧ at' ≤ r ∧ Hid (regOK i of r at' = false)) ∨
    (of ≤ i ∧ (r != -1) = false ∧ Hid (regOK i of r at' = true)) ∨ (of ≤ i ∧ (r != -1) = true ∧ Hid (regOK i of r at' = false)) := by
  unfold Hid regOK
  by_cases h : i < of
  · by_cases h1 : r < 0
    · exact .inr (.inl ⟨h, h1, by rw [if_pos h]; simp; omega⟩)
    · by_cases h2 : r < at'
      · exact .inl ⟨h, by omega, h2, by rw [if_pos h]; simp; omega⟩
      · exact .inr (.inr (.inl ⟨h, by omega, by omega, by rw [if_pos h]; simp; omega⟩))
  · by_cases h1 : r = -1
    · exact .inr (.inr (.inr (.inl ⟨by omega, by simp [h1], by rw [if_neg h]; simp [h1]⟩)))
    · exact .inr (.inr (.inr (.inr ⟨by omega, by simpa using h1, by rw [if_neg h]; simpa using h1⟩)))

set_option maxRecDepth 100000 in
set_option maxHeartbeats 4000000 in
theorem right_yes (o : OpV) (at' n : Int) (hn : n = 2 ∨ n = 3) (hh : headB o n = true) (w : World) :
    Calls Try.prog 51 #[.agg #[.int .i64 o.kind, .int .i64 o.dom, .int .i64 o.a, .int .i64 o.b, .int .i64 o.d, .int .u64 o.c], .int .i64 at', .int .i64 n] w (RightPost o at' n w) := by
  obtain ⟨k, dom, a, b, d, c⟩ := o
  have hp := (head_parts ⟨k, dom, a, b, d, c⟩ n).1 hh
  dsimp only at hp ⊢
  obtain ⟨hk, h1, h2, h3⟩ := hp
  have HH := Lib.hid hh
  have HK := Lib.hid hk
  clear hh hk
  have hd0 : dom < n := h2
  have h12 : (k == 12) = false ∨ ((k == 12) = true ∧ dom < 0) := by
    by_cases e : k = 12
    · exact .inr ⟨by simpa using e, by omega⟩
    · exact .inl (by simpa using e)
  clear h3
  obtain ⟨of, hof⟩ : ∃ of, Hid (regsI k n = of) := ⟨_, Lib.hid rfl⟩
  have i0 : ∀ w, (Instr.index 77 (.agg #[.int .i64 a, .int .i64 b, .int .i64 d]) (.int .i64 0)).run Try.prog w = .ok (.int .i64 a) w := fun _ => by kernel_rfl
  have i1 : ∀ w, (Instr.index 77 (.agg #[.int .i64 a, .int .i64 b, .int .i64 d]) (.int .i64 1)).run Try.prog w = .ok (.int .i64 b) w := fun _ => by kernel_rfl
  have i2 : ∀ w, (Instr.index 77 (.agg #[.int .i64 a, .int .i64 b, .int .i64 d]) (.int .i64 2)).run Try.prog w = .ok (.int .i64 d) w := fun _ => by kernel_rfl
  rcases h12 with h12 | ⟨h12, h13⟩
  all_goals
    rcases hn with rfl | rfl
    all_goals
      go_enter Try.func51, Try.ntmps51
      go_wp2_with (first
        | (go_at_call 80; refine (is_any _ _).mono ?_; rintro e w' ⟨he, rfl⟩; rw [HK.out] at he; subst he)
        | (go_at_call 81; refine (regs_any _ _ (by decide) _).mono ?_; rintro e w' ⟨he, rfl⟩; rw [hof.out] at he; subst he))
      clear h1 h2 hd0 h12
      go_loop [54] (fun i => ∃ j : Nat, j ≤ 3 ∧ i = .int .i64 j ∧ Hid ((0 < j → regOK 0 of a at' = true) ∧ (1 < j → regOK 1 of b at' = true) ∧ (2 < j → regOK 2 of d at' = true))) (fun i => 3 - (intOf i).toNat)
      case atStart => exact ⟨0, by omega, rfl, by unfold Hid; simp⟩
      case round =>
        obtain ⟨j, hj, rfl, hr⟩ := hrel
        have hc : j = 0 ∨ j = 1 ∨ j = 2 ∨ j = 3 := by omega
        clear hj
        rcases hc with rfl | rfl | rfl | rfl
        · rcases reg_cases 0 of a at' with ⟨c1, c2, c3, g⟩ | ⟨c1, c2, g⟩ | ⟨c1, c2, c3, g⟩ | ⟨c1, c2, g⟩ | ⟨c1, c2, g⟩
          all_goals go_wp2
          · go_round
            case rel => exact ⟨1, by omega, rfl, by have := g.out; unfold Hid; simp [this]⟩
            case measure => simp [intOf]
          · go_ret
            exact ⟨by rw [right_bad0 (o := ⟨k, dom, a, b, d, c⟩) hof.out g.out]; rfl, by go_grown⟩
          · go_ret
            exact ⟨by rw [right_bad0 (o := ⟨k, dom, a, b, d, c⟩) hof.out g.out]; rfl, by go_grown⟩
          · go_round
            case rel => exact ⟨1, by omega, rfl, by have := g.out; unfold Hid; simp [this]⟩
            case measure => simp [intOf]
          · go_ret
            exact ⟨by rw [right_bad0 (o := ⟨k, dom, a, b, d, c⟩) hof.out g.out]; rfl, by go_grown⟩
        · rcases reg_cases 1 of b at' with ⟨c1, c2, c3, g⟩ | ⟨c1, c2, g⟩ | ⟨c1, c2, c3, g⟩ | ⟨c1, c2, g⟩ | ⟨c1, c2, g⟩
          all_goals go_wp2
          · go_round
            case rel => exact ⟨2, by omega, rfl, by have := g.out; have h := hr.out.1 (by omega); unfold Hid; simp [this, h]⟩
            case measure => simp [intOf]
          · go_ret
            exact ⟨by rw [right_bad1 (o := ⟨k, dom, a, b, d, c⟩) hof.out g.out]; rfl, by go_grown⟩
          · go_ret
            exact ⟨by rw [right_bad1 (o := ⟨k, dom, a, b, d, c⟩) hof.out g.out]; rfl, by go_grown⟩
          · go_round
            case rel => exact ⟨2, by omega, rfl, by have := g.out; have h := hr.out.1 (by omega); unfold Hid; simp [this, h]⟩
            case measure => simp [intOf]
          · go_ret
            exact ⟨by rw [right_bad1 (o := ⟨k, dom, a, b, d, c⟩) hof.out g.out]; rfl, by go_grown⟩
        · rcases reg_cases 2 of d at' with ⟨c1, c2, c3, g⟩ | ⟨c1, c2, g⟩ | ⟨c1, c2, c3, g⟩ | ⟨c1, c2, g⟩ | ⟨c1, c2, g⟩
          all_goals go_wp2
          · go_round
            case rel => exact ⟨3, by omega, rfl, by have := g.out; have h := hr.out.1 (by omega); have h' := hr.out.2.1 (by omega); unfold Hid; simp [this, h, h']⟩
            case measure => simp [intOf]
          · go_ret
            exact ⟨by rw [right_bad2 (o := ⟨k, dom, a, b, d, c⟩) hof.out g.out]; rfl, by go_grown⟩
          · go_ret
            exact ⟨by rw [right_bad2 (o := ⟨k, dom, a, b, d, c⟩) hof.out g.out]; rfl, by go_grown⟩
          · go_round
            case rel => exact ⟨3, by omega, rfl, by have := g.out; have h := hr.out.1 (by omega); have h' := hr.out.2.1 (by omega); unfold Hid; simp [this, h, h']⟩
            case measure => simp [intOf]
          · go_ret
            exact ⟨by rw [right_bad2 (o := ⟨k, dom, a, b, d, c⟩) hof.out g.out]; rfl, by go_grown⟩
        · have g := right_good (o := ⟨k, dom, a, b, d, c⟩) HH.out hof.out (hr.out.1 (by omega)) (hr.out.2.1 (by omega)) (hr.out.2.2 (by omega))
          have G := Lib.hid g; clear g
          go_wp2_with (go_at_call 82; refine (const_any ⟨k, dom, a, b, d, c⟩ _).mono ?_; rintro e w' ⟨rfl, hb⟩)
          go_ret
          exact ⟨by rw [G.out]; rfl, ((Below.refl _ _).alloc (Nat.le_refl _) _).trans (hb.mono (by simp))⟩
theorem right_any (o : OpV) (at' n : Int) (hn : n = 2 ∨ n = 3) (w : World) :
    Calls Try.prog 51 #[.agg #[.int .i64 o.kind, .int .i64 o.dom, .int .i64 o.a, .int .i64 o.b, .int .i64 o.d, .int .u64 o.c], .int .i64 at', .int .i64 n] w (RightPost o at' n w) := by
  cases hh : headB o n
  · exact right_no o at' n hn hh w
  · exact right_yes o at' n hn hh w
end Go.Proofs.Ytdlmijcnjjdbbaa
