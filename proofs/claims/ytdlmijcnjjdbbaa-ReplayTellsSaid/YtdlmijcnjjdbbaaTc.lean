/- trace.Check. Conditions: each lemma's own. -/
import Derived.Test.YtdlmijcnjjdbbaaTr
namespace Go.Proofs.Ytdlmijcnjjdbbaa
open Go Go.RowKit

def opsB (n : Int) : Nat → Nat → List OpV → Bool
  | _, _, [] => true
  | i, wd, o :: r => rightB o i n && (if o.kind = 2 then decide (o.c = (wd : Int)) && opsB n (i + 1) (wd + 1) r else opsB n (i + 1) wd r)
def checkB (n : Int) (ops : List OpV) (l : List SpanV) : Bool := decide (n = 2 ∨ n = 3) && decide (ops.length ≤ 1048576) && orderedB ops.length 0 l && opsB n 0 0 ops

/-- What a trace is made of. -/
structure TraceAt (w : World) (oa : Option Addr) (oc : Nat) (ops : List OpV) (ba : Option Addr) (bc : Nat) (l : List SpanV) : Prop where
  atOps : OpsAt w oa ops
  atSpans : SpansAt w ba l
  olen : ops.length ≤ maxLen
  blen : l.length ≤ maxLen
theorem TraceAt.below {w w' : World} {oa : Option Addr} {oc : Nat} {ops : List OpV} {ba : Option Addr} {bc : Nat} {l : List SpanV} (h : TraceAt w oa oc ops ba bc l) (hb : Below w.heap.size w w') : TraceAt w' oa oc ops ba bc l :=
  ⟨Elems.below h.atOps hb, Elems.below h.atSpans hb, h.olen, h.blen⟩
theorem below_al (w : World) (o : Obj) : Below w.heap.size w (w.alloc o) := by go_grown

theorem opsB_step {n : Int} {i wd : Nat} {ops : List OpV} {o : OpV} (h : ops[i]? = some o) : opsB n i wd (ops.drop i) = (rightB o i n && (if o.kind = 2 then decide (o.c = (wd : Int)) && opsB n (i + 1) (wd + 1) (ops.drop (i + 1)) else opsB n (i + 1) wd (ops.drop (i + 1)))) := by
  obtain ⟨hj, rfl⟩ := List.getElem?_eq_some_iff.1 h
  rw [List.drop_eq_getElem_cons hj]
  rfl

structure CheckSt (w : World) (n : Int) (oa : Option Addr) (oc : Nat) (ba : Option Addr) (bc : Nat) (ops : List OpV) (l : List SpanV) (j wd : Nat) (wr : World) : Prop where
  below : Below w.heap.size w wr
  size : w.heap.size < wr.heap.size
  t1 : wr.cell? ⟨w.heap.size, 0, none⟩ = some (.int .i64 n)
  le : wd ≤ j
  res : Hid (checkB n ops l = opsB n j wd (ops.drop j))
theorem CheckSt.next {w : World} {n : Int} {oa : Option Addr} {oc : Nat} {ba : Option Addr} {bc : Nat} {ops : List OpV} {l : List SpanV} {j wd : Nat} {wr : World} (h : CheckSt w n oa oc ba bc ops l j wd wr) {w' : World} (hb : Below wr.heap.size wr w') (wd' : Nat)
    (hle : wd' ≤ j + 1) (hr : opsB n j wd (ops.drop j) = opsB n (j + 1) wd' (ops.drop (j + 1))) : CheckSt w n oa oc ba bc ops l (j + 1) wd' w' :=
  ⟨h.below.trans (hb.mono (by have := h.size; omega)), by have := h.size; have := hb.size; omega, (hb.cell (p := ⟨w.heap.size, 0, none⟩) h.size).trans h.t1, hle, Lib.hid (by rw [h.res.out, hr])⟩

def CheckPost (n : Int) (ops : List OpV) (l : List SpanV) (w : World) (e : Ending) (w' : World) : Prop := e = .returned (.int .i64 (if checkB n ops l = true then 0 else 4)) ∧ Below w.heap.size w w'
theorem check_bad {n : Int} {ops : List OpV} {l : List SpanV} {w w' : World} (h : checkB n ops l = false) (hb : Below w.heap.size w w') : CheckPost n ops l w (.returned (.int .i64 4)) w' := ⟨by simp [h], hb⟩
theorem check_ok {n : Int} {ops : List OpV} {l : List SpanV} {w w' : World} (h : checkB n ops l = true) (hb : Below w.heap.size w w') : CheckPost n ops l w (.returned (.int .i64 0)) w' := ⟨by simp [h], hb⟩

set_option maxRecDepth 100000 in
theorem check_loop (n : Int) (hn : n = 2 ∨ n = 3) (oa : Option Addr) (oc : Nat) (ops : List OpV) (ba : Option Addr) (bc : Nat) (l : List SpanV) (hlen : ops.length ≤ 1048576) (ho : orderedB ops.length 0 l = true) (w : World) (hT : TraceAt w oa oc ops ba bc l) :
    Calls Try.prog 22 #[.agg #[.int .i64 n, .slice oa ops.length oc, .slice ba l.length bc]] w (CheckPost n ops l w) := by
  have HT := Lib.hid hT; clear hT
  have HO := Lib.hid ho; clear ho
  have E0 : Hid (checkB n ops l = opsB n 0 0 (ops.drop 0)) := Lib.hid (by simp [checkB, HO.out, hlen, hn])
  have HN := Lib.hid hn
  have hn' : ((n != 2) = false) ∨ ((n != 2) = true ∧ (n != 3) = false) := by
    rcases hn with rfl | rfl
    · exact .inl rfl
    · exact .inr ⟨rfl, rfl⟩
  clear hn
  rcases hn' with n2 | ⟨n2, n3⟩
  all_goals
    go_enter Try.func22, Try.ntmps22
    go_wp2_with fail
    refine (ordered_any _ oa ops.length oc ba bc l (by exact HT.out.blen) _ (by exact (HT.out.below (below_al _ _)).atSpans)).mono ?_
    rintro e w1 ⟨he, hb1⟩
    rw [HO.out] at he
    subst he
    have q0 := (hb1.cell (p := ⟨w.heap.size, 1, none⟩) (by rw [World.size_alloc]; exact Nat.lt_succ_self _)).trans (World.cell?_alloc_mark w _ 25 (0, 0) 1)
    have q1 := (hb1.cell (p := ⟨w.heap.size, 0, none⟩) (by rw [World.size_alloc]; exact Nat.lt_succ_self _)).trans (World.cell?_alloc_mark w _ 25 (0, 0) 0)
    simp only [List.getElem?_toArray, List.getElem?_cons_succ, List.getElem?_cons_zero] at q0 q1
    have hB := (below_al w _).trans (hb1.mono (by rw [World.size_alloc]; exact Nat.le_succ _))
    have hZ : w.heap.size < w1.heap.size := Nat.lt_of_lt_of_le (by rw [World.size_alloc]; exact Nat.lt_succ_self _) hb1.size
    clear hb1
    go_wp2_with fail
    go_loopw [3, 28] (fun la i wr => ∃ (j wd : Nat), j ≤ ops.length ∧ i = .int .i64 j ∧ la = .int .u64 wd ∧ CheckSt w n oa oc ba bc ops l j wd wr) (fun la i _ => ops.length - (intOf i).toNat)
    case atStart => exact ⟨0, 0, by omega, rfl, rfl, ⟨hB, hZ, q1, by omega, E0⟩⟩
    case round =>
      clear q0 q1 E0 hB hZ
      obtain ⟨j, wd, hj, rfl, rfl, hst⟩ := hrel
      by_cases hlt : j < ops.length
      · obtain ⟨o, ho⟩ : ∃ o, ops[j]? = some o := ⟨_, List.getElem?_eq_getElem hlt⟩
        obtain ⟨b, off, rfl, hb, c0, c1, c2, c3, c4, c5⟩ := HT.out.atOps.at ho
        have q0 := (hst.below.cell (p := ⟨b, off + j * 6, none⟩) hb).trans c0
        have q1 := (hst.below.cell (p := ⟨b, off + j * 6 + 1, none⟩) hb).trans c1
        have q2 := (hst.below.cell (p := ⟨b, off + j * 6 + 2, none⟩) hb).trans c2
        have q3 := (hst.below.cell (p := ⟨b, off + j * 6 + 3, none⟩) hb).trans c3
        have q4 := (hst.below.cell (p := ⟨b, off + j * 6 + 4, none⟩) hb).trans c4
        have q5 := (hst.below.cell (p := ⟨b, off + j * 6 + 5, none⟩) hb).trans c5
        have hle := hst.le
        clear c0 c1 c2 c3 c4 c5
        obtain ⟨kind, dom, ra, rb, rd, c⟩ := o
        have t1 := cell_al (.cells #[.int .i64 kind, .int .i64 dom, .int .i64 ra, .int .i64 rb, .int .i64 rd, .int .u64 c] 60) hst.t1
        dsimp only at q0 q1 q2 q3 q4 q5
        go_wp2_with fail
        refine (right_any ⟨kind, dom, ra, rb, rd, c⟩ _ _ (by exact HN.out) _).mono ?_
        rintro e w2 ⟨rfl, hb2⟩
        have hsz := hst.size
        have hBw := (below_al wr _).trans (hb2.mono (by rw [World.size_alloc]; exact Nat.le_succ _))
        have r0 := (hb2.cell (p := ⟨wr.heap.size, 0, none⟩) (by rw [World.size_alloc]; exact Nat.lt_succ_self _)).trans (World.cell?_alloc_mark wr _ 60 (0, 0) 0)
        have r5 := (hb2.cell (p := ⟨wr.heap.size, 5, none⟩) (by rw [World.size_alloc]; exact Nat.lt_succ_self _)).trans (World.cell?_alloc_mark wr _ 60 (0, 0) 5)
        simp only [List.getElem?_toArray, List.getElem?_cons_succ, List.getElem?_cons_zero] at r0 r5
        have HBW := Lib.hid hBw
        have HBL := Lib.hid (hst.below.trans (hBw.mono (by omega)))
        clear hb2 hBw q0 q1 q2 q3 q4 q5 t1
        rcases Bool.eq_false_or_eq_true (rightB ⟨kind, dom, ra, rb, rd, c⟩ j n) with hr | hr
        · have HR := Lib.hid hr
          rw [hr]
          clear hr
          by_cases hk : kind = 2
          · subst hk
            by_cases hc : c = (wd : Int)
            · have hcb : (c != (wd : Int)) = false := by simp [hc]
              have HC := Lib.hid hc
              clear hc
              go_wp2_with fail
              go_roundw
              case rel => exact ⟨j + 1, wd + 1, by omega, by simp, by simp, hst.next HBW.out _ (by omega) (by rw [opsB_step ho, HR.out]; simp [HC.out])⟩
              case measure => simp [intOf]; omega
            · have hcb : (c != (wd : Int)) = true := by simp [hc]
              have HC := Lib.hid hc
              clear hc
              go_wp2_with fail
              go_ret
              exact check_bad (by rw [hst.res.out, opsB_step ho]; simp [HC.out]) HBL.out
          · have hkb : (kind != 2) = true := by simp [hk]
            have HK := Lib.hid hk
            clear hk
            go_wp2_with fail
            go_roundw
            case rel => exact ⟨j + 1, wd, by omega, by simp, rfl, hst.next HBW.out _ (by omega) (by rw [opsB_step ho, HR.out]; simp [HK.out])⟩
            case measure => simp [intOf]; omega
        · have HR := Lib.hid hr
          rw [hr]
          clear hr
          go_wp2_with fail
          go_ret
          exact check_bad (by rw [hst.res.out, opsB_step ho, HR.out]; rfl) HBL.out
      · obtain rfl : j = ops.length := by omega
        go_wp2_with fail
        go_ret
        exact check_ok (by rw [hst.res.out]; simp [opsB]) hst.below

set_option maxRecDepth 100000 in
theorem check_any (n : Int) (oa : Option Addr) (oc : Nat) (ops : List OpV) (ba : Option Addr) (bc : Nat) (l : List SpanV) (w : World) (hT : TraceAt w oa oc ops ba bc l) :
    Calls Try.prog 22 #[.agg #[.int .i64 n, .slice oa ops.length oc, .slice ba l.length bc]] w (CheckPost n ops l w) := by
  by_cases hn : n = 2 ∨ n = 3
  · by_cases hlen : ops.length ≤ 1048576
    · cases ho : orderedB ops.length 0 l
      · have HT := Lib.hid hT; clear hT
        have E : Hid (checkB n ops l = false) := Lib.hid (by simp [checkB, ho])
        have HO := Lib.hid ho; clear ho
        have hn' : ((n != 2) = false) ∨ ((n != 2) = true ∧ (n != 3) = false) := by
          rcases hn with rfl | rfl
          · exact .inl rfl
          · exact .inr ⟨rfl, rfl⟩
        clear hn
        rcases hn' with n2 | ⟨n2, n3⟩
        all_goals
          go_enter Try.func22, Try.ntmps22
          go_wp2_with fail
          refine (ordered_any _ oa ops.length oc ba bc l (by exact HT.out.blen) _ (by exact (HT.out.below (below_al _ _)).atSpans)).mono ?_
          rintro e w1 ⟨he, hb1⟩
          rw [HO.out] at he
          subst he
          have hB := Lib.hid ((below_al w _).trans (hb1.mono (by rw [World.size_alloc]; exact Nat.le_succ _)))
          clear hb1
          go_wp2_with fail
          go_ret
          exact check_bad E.out hB.out
      · exact check_loop n hn oa oc ops ba bc l hlen ho w hT
    · have E : Hid (checkB n ops l = false) := Lib.hid (by simp [checkB, hlen])
      clear hT
      have hn' : ((n != 2) = false) ∨ ((n != 2) = true ∧ (n != 3) = false) := by
        rcases hn with rfl | rfl
        · exact .inl rfl
        · exact .inr ⟨rfl, rfl⟩
      clear hn
      rcases hn' with n2 | ⟨n2, n3⟩
      all_goals
        go_enter Try.func22, Try.ntmps22
        go_wp2_with fail
        go_ret
        exact check_bad E.out (by go_grown)
  · have E : Hid (checkB n ops l = false) := Lib.hid (by simp only [checkB, hn]; rfl)
    have n2 : (n != 2) = true := by simp; omega
    have n3 : (n != 3) = true := by simp; omega
    clear hT hn
    go_enter Try.func22, Try.ntmps22
    go_wp2_with fail
    go_ret
    exact check_bad E.out (by go_grown)
end Go.Proofs.Ytdlmijcnjjdbbaa
