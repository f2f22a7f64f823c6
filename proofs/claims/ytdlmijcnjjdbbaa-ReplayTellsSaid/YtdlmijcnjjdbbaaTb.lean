/- visorref18.Tally (its end is printed by gen_tb.py). Conditions: each lemma's own. -/
import Derived.Test.YtdlmijcnjjdbbaaTa
namespace Go.Proofs.Ytdlmijcnjjdbbaa
open Go Go.RowKit

def RTalSt (w : World) (oa : Option Addr) (oc : Nat) (ops : List OpV) (j : Nat) (wr : World) : Prop := TalSt w oa ops j wr ∧ wr.cell? ⟨w.heap.size, 1, none⟩ = some (.slice oa ops.length oc)
theorem RTalSt.next {w : World} {oa : Option Addr} {oc : Nat} {ops : List OpV} {j : Nat} {wr : World} (h : RTalSt w oa oc ops j wr) {o : OpV} (ho : ops[j]? = some o) {kn : Nat} (hcl : cls o = kn) (hk : kn ≤ 12) {z : Int} (hz : kc (ops.take j) kn = z) :
    RTalSt w oa oc ops (j + 1) (wr.setCell ⟨w.heap.size + 1 + 1, kn, none⟩ (.int .i64 (z + 1))) := by
  have hg := grownBy_set1 wr (w.heap.size + 1 + 1) kn (.int .i64 (z + 1))
  have hb := h.1.below.grown hg h.1.below.size (fun j h => by have := Option.some.inj h; omega)
  refine ⟨⟨hb, h.1.res.kept hg (fun h => by have := Option.some.inj h; omega), ?_⟩, ?_⟩
  · rw [kc_step ho, hcl, hz]
    exact h.1.arr.put kn hk _
  · exact hg.cell h.2 (fun h => by have := Option.some.inj h; simp at this; omega)

set_option maxRecDepth 100000 in
set_option maxHeartbeats 4000000 in
theorem rtally_any (n : Int) (oa : Option Addr) (oc : Nat) (ops : List OpV) (ba : Option Addr) (bl bc : Nat) (w : World) (hT : OpsAt w oa ops) (hl : ops.length ≤ maxLen) :
    Calls Try.prog 18 #[.agg #[.int .i64 n, .slice oa ops.length oc, .slice ba bl bc]] w fun e w' => e = .returned (.agg (tcells (kc ops))) ∧ Below w.heap.size w w' := by
  have HT := Lib.hid hT; clear hT
  have hml : ops.length ≤ 2 ^ 63 - 1 := hl
  clear hl
  go_enter Try.func18, Try.ntmps18
  go_wp2_with fail
  go_loopw [4] (fun i wr => ∃ j : Nat, j ≤ ops.length ∧ i = .int .i64 j ∧ RTalSt w oa oc ops j wr) (fun i _ => ops.length - (intOf i).toNat)
  case atStart =>
    have e2 := TalAt.new ((w.alloc (.cells #[.int .i64 n, .slice oa ops.length oc, .slice ba bl bc] 25)).alloc (.cells (tcells fun _ => 0) 46)) (fun _ => 0)
    have e1 := (TalAt.new (w.alloc (.cells #[.int .i64 n, .slice oa ops.length oc, .slice ba bl bc] 25)) (fun _ => 0)).below (below_al _ (.cells (tcells fun _ => 0) 46))
    simp only [World.size_alloc] at e1 e2
    exact ⟨0, by omega, rfl, ⟨by go_grown, e1, e2⟩, cell_al _ (cell_al _ (World.cell?_alloc_mark w _ 25 (0, 0) 1))⟩
  case round =>
    obtain ⟨j, hj, rfl, hst⟩ := hrel
    have hsz : w.heap.size + 1 + 1 < wr.heap.size := hst.1.arr.lt
    have x1 := hst.2
    by_cases hlt : j < ops.length
    · obtain ⟨o, ho⟩ : ∃ o, ops[j]? = some o := ⟨_, List.getElem?_eq_getElem hlt⟩
      obtain ⟨b, off, rfl, hb, c0, c1, c2, c3, c4, c5⟩ := HT.out.at ho
      have q0 := (hst.1.below.cell (p := ⟨b, off + j * 6, none⟩) hb).trans c0
      clear c0 c1 c2 c3 c4 c5
      have hK := kc_le (ops.take j) (cls o)
      rw [List.length_take] at hK
      have hK1 : 0 ≤ kc (ops.take j) (cls o) := hK.1
      have hK2 : kc (ops.take j) (cls o) < 9223372036854775807 := by omega
      clear hK
      by_cases hk : 1 ≤ o.kind ∧ o.kind ≤ 12
      · obtain ⟨kn, hkn⟩ : ∃ kn : Nat, o.kind = kn := ⟨o.kind.toNat, by omega⟩
        have hcl : cls o = kn := by simp [cls, hkn]; omega
        obtain ⟨kind, dom, ra, rb, rd, c⟩ := o
        obtain rfl : kind = kn := hkn
        dsimp only at q0 hk
        obtain ⟨hk1, hk2⟩ := hk
        have hk12 : kn ≤ 12 := by omega
        rw [hcl] at hK1 hK2
        have HCL := Lib.hid hcl
        clear hcl
        have c0 := hst.1.arr.cell kn hk12
        have f0 := hst.1.arr.frozen kn
        have HST := Lib.hid hst
        generalize hz : kc (ops.take j) kn = z at *
        have HZ := Lib.hid hz
        clear hz hst
        go_wp2_with fail
        refine ⟨⟨j + 1, by omega, by simp, HST.out.next ho HCL.out hk12 HZ.out⟩, by simp [intOf]; omega⟩
      · have hcl : cls o = 0 := by simp [cls]; omega
        have hk' : o.kind < 1 ∨ (1 ≤ o.kind ∧ 12 < o.kind) := by omega
        obtain ⟨kind, dom, ra, rb, rd, c⟩ := o
        dsimp only at q0 hk'
        rw [hcl] at hK1 hK2
        have HCL := Lib.hid hcl
        clear hcl hk
        have c0 := hst.1.arr.cell 0 (by omega)
        have f0 := hst.1.arr.frozen 0
        have HST := Lib.hid hst
        generalize hz : kc (ops.take j) 0 = z at *
        have HZ := Lib.hid hz
        clear hz hst
        rcases hk' with h1 | ⟨h1, h2⟩
        all_goals
          go_wp2_with fail
          refine ⟨⟨j + 1, by omega, by simp, HST.out.next ho HCL.out (by omega) HZ.out⟩, by simp [intOf]; omega⟩
    · obtain rfl : j = ops.length := by omega
      have e := hst.1.arr
      rw [List.take_length] at e
      have hB := Lib.hid hst.1.below
      have hR := Lib.hid hst.1.res
      have c0 := e.cell 0 (by omega); have c1 := e.cell 1 (by omega); have c2 := e.cell 2 (by omega); have c3 := e.cell 3 (by omega); have c4 := e.cell 4 (by omega); have c5 := e.cell 5 (by omega); have c6 := e.cell 6 (by omega)
      have c7 := e.cell 7 (by omega); have c8 := e.cell 8 (by omega); have c9 := e.cell 9 (by omega); have c10 := e.cell 10 (by omega); have c11 := e.cell 11 (by omega); have c12 := e.cell 12 (by omega)
      have r := hst.1.res
      have r0 := r.cell 0 (by omega); have f0 := r.frozen 0
      have r1 := r.cell 1 (by omega); have f1 := r.frozen 1
      have r2 := r.cell 2 (by omega); have f2 := r.frozen 2
      have r3 := r.cell 3 (by omega); have f3 := r.frozen 3
      have r4 := r.cell 4 (by omega); have f4 := r.frozen 4
      have r5 := r.cell 5 (by omega); have f5 := r.frozen 5
      have r6 := r.cell 6 (by omega); have f6 := r.frozen 6
      have r7 := r.cell 7 (by omega); have f7 := r.frozen 7
      have r8 := r.cell 8 (by omega); have f8 := r.frozen 8
      have r9 := r.cell 9 (by omega); have f9 := r.frozen 9
      have r10 := r.cell 10 (by omega); have f10 := r.frozen 10
      have r11 := r.cell 11 (by omega); have f11 := r.frozen 11
      have r12 := r.cell 12 (by omega); have f12 := r.frozen 12
      clear r e hst
      go_wp2_with fail
      have e9' := TalBel.of_eq ((((((((((((((show TalBel w w.heap.size (w.heap.size + 1) _ wr from ⟨hR.out, hB.out⟩).put 0 (by omega) (Nat.le_succ _) (kc ops 0)).put 1 (by omega) (Nat.le_succ _) (kc ops 1)).put 2 (by omega) (Nat.le_succ _) (kc ops 2)).put 3 (by omega) (Nat.le_succ _) (kc ops 3)).put 4 (by omega) (Nat.le_succ _) (kc ops 4)).put 5 (by omega) (Nat.le_succ _) (kc ops 5)).put 6 (by omega) (Nat.le_succ _) (kc ops 6)).put 7 (by omega) (Nat.le_succ _) (kc ops 7)).put 8 (by omega) (Nat.le_succ _) (kc ops 8)).put 9 (by omega) (Nat.le_succ _) (kc ops 9)).put 10 (by omega) (Nat.le_succ _) (kc ops 10)).put 11 (by omega) (Nat.le_succ _) (kc ops 11)).put 12 (by omega) (Nat.le_succ _) (kc ops 12)) (K' := kc ops) (by simp [tcells, upd])
      revert e9'
      generalize World.setCell (World.setCell _ _ _) _ _ = w9
      rintro ⟨e9, b9⟩
      have c0 := e9.cell 0 (by omega); have c1 := e9.cell 1 (by omega); have c2 := e9.cell 2 (by omega); have c3 := e9.cell 3 (by omega); have c4 := e9.cell 4 (by omega); have c5 := e9.cell 5 (by omega); have c6 := e9.cell 6 (by omega)
      have c7 := e9.cell 7 (by omega); have c8 := e9.cell 8 (by omega); have c9 := e9.cell 9 (by omega); have c10 := e9.cell 10 (by omega); have c11 := e9.cell 11 (by omega); have c12 := e9.cell 12 (by omega)
      refine bodyPost_ret (v := .agg (tcells (kc ops))) (by simp [results, Try.results18, go_sem, c0, c1, c2, c3, c4, c5, c6, c7, c8, c9, c10, c11, c12]; try rfl) rfl ?_
      exact ⟨rfl, b9⟩
end Go.Proofs.Ytdlmijcnjjdbbaa

