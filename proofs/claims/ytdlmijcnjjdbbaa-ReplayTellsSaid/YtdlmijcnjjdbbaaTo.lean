/- trace.Opens, visorref18.Opens: where something is opened. Conditions: at most 2^20 ops. -/
import Derived.Test.YtdlmijcnjjdbbaaTb
import Derived.Test.YtdlmijcnjjdbbaaTi
namespace Go.Proofs.Ytdlmijcnjjdbbaa
open Go Go.RowKit

def opn : Nat → List OpV → List Nat
  | _, [] => []
  | i, o :: r => if o.kind = 12 then i :: opn (i + 1) r else opn (i + 1) r
theorem opn_append (i : Nat) (l m : List OpV) : opn i (l ++ m) = opn i l ++ opn (i + l.length) m := by
  induction l generalizing i with
  | nil => simp [opn]
  | cons o r ih =>
    have e : i + 1 + r.length = i + (r.length + 1) := by omega
    by_cases h : o.kind = 12 <;> simp [opn, h, ih, e]
theorem opn_step {ops : List OpV} {j : Nat} {o : OpV} (h : ops[j]? = some o) : opn 0 (ops.take (j + 1)) = if o.kind = 12 then opn 0 (ops.take j) ++ [j] else opn 0 (ops.take j) := by
  obtain ⟨hj, rfl⟩ := List.getElem?_eq_some_iff.1 h
  rw [List.take_succ_eq_append_getElem hj, opn_append]
  have e : 0 + (ops.take j).length = j := by rw [List.length_take]; omega
  rw [e]
  by_cases hk : ops[j].kind = 12 <;> simp [opn, hk]
theorem opn_len (i : Nat) (l : List OpV) : (opn i l).length ≤ l.length := by
  induction l generalizing i with
  | nil => simp [opn]
  | cons o r ih => by_cases h : o.kind = 12 <;> simp [opn, h] <;> have := ih (i + 1) <;> omega
def ints (l : List Nat) : List Value := l.map fun z : Nat => .int .i64 (z : Int)
theorem ints_append (l m : List Nat) : ints (l ++ m) = ints l ++ ints m := by simp [ints]

structure OpnSt (w : World) (n0 : Nat) (oa : Option Addr) (oc : Nat) (ops : List OpV) (j : Nat) (v : Value) (wr : World) : Prop where
  below : Below w.heap.size w wr
  lt : w.heap.size < wr.heap.size
  lo : n0 ≤ wr.heap.size
  x1 : wr.cell? ⟨w.heap.size, 1, none⟩ = some (.slice oa ops.length oc)
  own : wr.ownsRow n0 3 1 v (opn 0 (ops.take j)).length (ints (opn 0 (ops.take j)))
/-- A step that keeps what there is. -/
theorem OpnSt.keep {w : World} {n0 : Nat} {oa : Option Addr} {oc : Nat} {ops : List OpV} {j : Nat} {v : Value} {wr : World} (h : OpnSt w n0 oa oc ops j v wr) {wr' : World} (hg : wr.grownBy wr' none) (he : opn 0 (ops.take (j + 1)) = opn 0 (ops.take j)) : OpnSt w n0 oa oc ops (j + 1) v wr' :=
  ⟨h.below.grown hg h.below.size (fun k e => by cases e), Nat.lt_of_lt_of_le h.lt hg.size, Nat.le_trans h.lo hg.size, hg.cell h.x1 (by simp), by rw [he]; exact h.own.kept hg (by cases v.ownBlock <;> simp)⟩
theorem OpnSt.push {w : World} {n0 : Nat} {oa : Option Addr} {oc : Nat} {ops : List OpV} {j : Nat} {v v' : Value} {wr wr1 wr' : World} (h : OpnSt w n0 oa oc ops j v wr) (hn : w.heap.size < n0) (hg0 : wr.grownBy wr1 none) (hg : wr1.grownBy wr' v.ownBlock)
    (hown : wr'.ownsRow n0 3 1 v' ((opn 0 (ops.take j)).length + 1) (ints (opn 0 (ops.take j)) ++ [.int .i64 j])) (he : opn 0 (ops.take (j + 1)) = opn 0 (ops.take j) ++ [j]) : OpnSt w n0 oa oc ops (j + 1) v' wr' := by
  have hlt := World.ownsRow.lt h.own
  refine ⟨(h.below.grown hg0 h.below.size (fun k e => by cases e)).grown hg (Nat.le_trans h.below.size hg0.size) (fun k e => by have := (hlt k e).1; omega), ?_, ?_, ?_, ?_⟩
  · exact Nat.lt_of_lt_of_le h.lt (Nat.le_trans hg0.size hg.size)
  · exact Nat.le_trans h.lo (Nat.le_trans hg0.size hg.size)
  · exact hg.cell (hg0.cell h.x1 (by simp)) (fun e => by have := (hlt _ e.symm).1; simp at this; omega)
  · rw [he, List.length_append, ints_append]; exact hown

def RowPost (xs : List Nat) (w : World) (e : Ending) (w' : World) : Prop := ∃ v, e = .returned v ∧ w'.ownsRow (w.heap.size + 1) 3 1 v xs.length (ints xs) ∧ Below w.heap.size w w'

set_option maxRecDepth 100000 in
set_option maxHeartbeats 1000000 in
theorem opens_any (n : Int) (oa : Option Addr) (oc : Nat) (ops : List OpV) (ba : Option Addr) (bl bc : Nat) (w : World) (hT : OpsAt w oa ops) (hl : ops.length ≤ 1048576) :
    Calls Try.prog 26 #[.agg #[.int .i64 n, .slice oa ops.length oc, .slice ba bl bc]] w (RowPost (opn 0 ops) w) := by
  have HT := Lib.hid hT; clear hT
  obtain ⟨i0, hi, hz0, hz1, hz2⟩ := info_parts infoInt
  have HI := Lib.hid hi; have HZ0 := Lib.hid hz0; have HZ1 := Lib.hid hz1; have HZ2 := Lib.hid hz2
  clear hi hz0 hz1 hz2
  go_enter Try.func26, Try.ntmps26
  go_wp2_with fail
  go_loopw [3, 9] (fun v i wr => ∃ j : Nat, j ≤ ops.length ∧ i = .int .i64 j ∧ OpnSt w (w.heap.size + 1) oa oc ops j v wr) (fun _ i _ => ops.length - (intOf i).toNat)
  case atStart => exact ⟨0, by omega, rfl, ⟨by go_grown, by rw [World.size_alloc]; omega, by rw [World.size_alloc]; omega, World.cell?_alloc_mark w _ 25 (0, 0) 1, by simpa [opn, ints] using World.ownsRow_nil _ _ _ _⟩⟩
  case round =>
    obtain ⟨j, hj, rfl, hst⟩ := hrel
    have x1 := hst.x1
    have hsz := hst.lt
    by_cases hlt : j < ops.length
    · obtain ⟨o, ho⟩ : ∃ o, ops[j]? = some o := ⟨_, List.getElem?_eq_getElem hlt⟩
      obtain ⟨b, off, rfl, hb, c0, c1, c2, c3, c4, c5⟩ := HT.out.at ho
      have q0 := (hst.below.cell (p := ⟨b, off + j * 6, none⟩) hb).trans c0
      have q1 := (hst.below.cell (p := ⟨b, off + j * 6 + 1, none⟩) hb).trans c1
      have q2 := (hst.below.cell (p := ⟨b, off + j * 6 + 2, none⟩) hb).trans c2
      have q3 := (hst.below.cell (p := ⟨b, off + j * 6 + 3, none⟩) hb).trans c3
      have q4 := (hst.below.cell (p := ⟨b, off + j * 6 + 4, none⟩) hb).trans c4
      have q5 := (hst.below.cell (p := ⟨b, off + j * 6 + 5, none⟩) hb).trans c5
      clear c0 c1 c2 c3 c4 c5
      obtain ⟨kind, dom, ra, rb, rd, c⟩ := o
      dsimp only at q0 q1 q2 q3 q4 q5
      obtain ⟨va, vc, rfl⟩ := ownsRow_slice hst.own
      have HST := Lib.hid hst; clear hst
      by_cases hk : kind = 12
      · subst hk
        have E := Lib.hid (opn_step ho)
        have hlen := opn_len 0 (ops.take j)
        rw [List.length_take] at hlen
        have hml : (opn 0 (ops.take j)).length + 1 ≤ maxLen := by unfold maxLen; omega
        have hmb : ((opn 0 (ops.take j)).length + 1) * 8 ≤ 140737488355328 := by omega
        have HML := Lib.hid hml; have HMB := Lib.hid hmb; clear hml hmb hlen
        go_wp2_with (at_builtin; refine wpList_append_own _ rfl (.tmp 17) (.tmp 19) 29 rfl (w.heap.size + 1) 3 i0 (.int .i64 0) 1 8 underInts HI.out HZ0.out HZ1.out HZ2.out rfl (by decide) _ _ _ rfl ((HST.out.own.alloc _).alloc _) ⟨wr.heap.size + 1, 0, none⟩ 1 1 [.int .i64 j] rfl rfl (by have := cell_one_new (wr.alloc (.cells #[.int .i64 12, .int .i64 dom, .int .i64 ra, .int .i64 rb, .int .i64 rd, .int .u64 c] 60)) (.int .i64 j) 3; rwa [World.size_alloc] at this) (by intro u hu; simp at hu; subst hu; rfl) HML.out HMB.out (by simp; omega) ?_; intro v' w1 hown' hgrow _; obtain ⟨va', vc', rfl⟩ := ownsRow_slice hown'; have HO1 := Lib.hid hown'; have HG1 := Lib.hid hgrow; clear hown' hgrow)
        go_roundw
        case rel => exact ⟨j + 1, by omega, by simp, HST.out.push (by omega) ((World.grownBy_alloc _ _ none).trans (World.grownBy_alloc _ _ none)) HG1.out HO1.out (by rw [E.out]; rfl)⟩
        case measure => simp [intOf]; omega
      · have hkb : (kind == 12) = false := by simp [hk]
        have E := Lib.hid (show opn 0 (ops.take (j + 1)) = opn 0 (ops.take j) by rw [opn_step ho, if_neg hk])
        clear hk
        go_wp2_with fail
        go_roundw
        case rel => exact ⟨j + 1, by omega, by simp, HST.out.keep (World.grownBy_alloc _ _ none) E.out⟩
        case measure => simp [intOf]; omega
    · obtain rfl : j = ops.length := by omega
      have hw := hst.own
      rw [List.take_length] at hw
      have HW := Lib.hid hw; clear hw
      go_wp2_with fail
      go_ret
      exact ⟨_, rfl, HW.out, hst.below⟩
end Go.Proofs.Ytdlmijcnjjdbbaa
