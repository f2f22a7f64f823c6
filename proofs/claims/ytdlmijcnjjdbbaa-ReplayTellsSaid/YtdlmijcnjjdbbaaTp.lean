/- visorref18.Opens. Conditions: each lemma's own. -/
import Derived.Test.YtdlmijcnjjdbbaaTo
import Derived.Test.YtdlmijcnjjdbbaaTq
namespace Go.Proofs.Ytdlmijcnjjdbbaa
open Go Go.RowKit

set_option maxRecDepth 100000 in
set_option maxHeartbeats 1000000 in
theorem ropens_any (n : Int) (oa : Option Addr) (oc : Nat) (ops : List OpV) (ba : Option Addr) (bl bc : Nat) (w : World) (hT : OpsAt w oa ops) (hl : ops.length ≤ 1048576) :
    Calls Try.prog 14 #[.agg #[.int .i64 n, .slice oa ops.length oc, .slice ba bl bc]] w (RowPost (opn 0 ops) w) := by
  have HT := Lib.hid hT; clear hT
  obtain ⟨i0, hi, hz0, hz1, hz2⟩ := info_parts infoInt
  have HI := Lib.hid hi; have HZ0 := Lib.hid hz0; have HZ1 := Lib.hid hz1; have HZ2 := Lib.hid hz2
  clear hi hz0 hz1 hz2
  go_enter Try.func14, Try.ntmps14
  go_wp2_with fail
  go_loopw [3, 4] (fun v i wr => ∃ j : Nat, j ≤ ops.length ∧ i = .int .i64 j ∧ OpnSt w (w.heap.size + 1) oa oc ops j v wr) (fun _ i _ => ops.length - (intOf i).toNat)
  case atStart =>
    refine ⟨0, by omega, rfl, ⟨by go_grown, by simp; omega, by simp, cell_al _ (World.cell?_alloc_mark w _ 25 (0, 0) 1), ?_⟩⟩
    refine ⟨rfl, .inr ⟨w.heap.size + 1, 0, #[], rfl, Nat.le_refl _, ?_, by simp [opn], by unfold maxLen; omega, rfl, rfl⟩⟩
    have := World.alloc_heap_new (w.alloc (.cells #[.int .i64 n, .slice oa ops.length oc, .slice ba bl bc] 25)) (.cells #[] 3)
    rwa [World.size_alloc] at this
  case round =>
    obtain ⟨j, hj, rfl, hst⟩ := hrel
    have x1 := hst.x1
    have hsz := hst.lt
    by_cases hlt : j < ops.length
    · obtain ⟨o, ho⟩ : ∃ o, ops[j]? = some o := ⟨_, List.getElem?_eq_getElem hlt⟩
      obtain ⟨b, off, rfl, hb, c0, c1, c2, c3, c4, c5⟩ := HT.out.at ho
      have q0 := (hst.below.cell (p := ⟨b, off + j * 6, none⟩) hb).trans c0
      clear c0 c1 c2 c3 c4 c5
      obtain ⟨kind, dom, ra, rb, rd, c⟩ := o
      dsimp only at q0
      obtain ⟨va, vc, rfl⟩ := ownsRow_slice hst.own
      have HST := Lib.hid hst; clear hst
      by_cases hk : kind = 12
      · subst hk
        have E := Lib.hid (opn_step ho)
        have hlen := opn_len 0 (ops.take j)
        rw [List.length_take] at hlen
        have hml : (opn 0 (ops.take j)).length + 1 ≤ maxLen := by unfold maxLen; omega
        have hmb : ((opn 0 (ops.take j)).length + 1) * 8 ≤ 140737488355328 := by omega
        have HML := Lib.hid hml; have HMB := Lib.hid hmb; clear hml hmb hlen
        go_wp2_with (at_builtin; refine wpList_append_own _ rfl (.tmp 20) (.tmp 22) 29 rfl (w.heap.size + 1) 3 i0 (.int .i64 0) 1 8 underInts HI.out HZ0.out HZ1.out HZ2.out rfl (by decide) _ _ _ rfl (HST.out.own.alloc _) ⟨wr.heap.size, 0, none⟩ 1 1 [.int .i64 j] rfl rfl (cell_one_new _ _ _) (by intro u hu; simp at hu; subst hu; rfl) HML.out HMB.out (by simp; omega) ?_; intro v' w1 hown' hgrow _; obtain ⟨va', vc', rfl⟩ := ownsRow_slice hown'; have HO1 := Lib.hid hown'; have HG1 := Lib.hid hgrow; clear hown' hgrow)
        go_roundw
        case rel => exact ⟨j + 1, by omega, by simp, HST.out.push (by omega) (World.grownBy_alloc _ _ none) HG1.out HO1.out (by rw [E.out]; rfl)⟩
        case measure => simp [intOf]; omega
      · have hkb : (kind == 12) = false := by simp [hk]
        have E := Lib.hid (show opn 0 (ops.take (j + 1)) = opn 0 (ops.take j) by rw [opn_step ho, if_neg hk])
        clear hk
        go_wp2_with fail
        go_roundw
        case rel => exact ⟨j + 1, by omega, by simp, HST.out.keep (World.grownBy.refl _ none) E.out⟩
        case measure => simp [intOf]; omega
    · obtain rfl : j = ops.length := by omega
      have hw := hst.own
      rw [List.take_length] at hw
      have HW := Lib.hid hw; clear hw
      go_wp2_with fail
      go_ret
      exact ⟨_, rfl, HW.out, hst.below⟩

end Go.Proofs.Ytdlmijcnjjdbbaa
