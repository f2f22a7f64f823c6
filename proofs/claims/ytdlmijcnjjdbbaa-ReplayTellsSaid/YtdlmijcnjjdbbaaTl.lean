/- ReplayTells: the law answers true for every trace, words and places. Conditions: each lemma's own. -/
import Derived.Test.YtdlmijcnjjdbbaaAw
import Derived.Test.YtdlmijcnjjdbbaaRv
import Derived.Test.YtdlmijcnjjdbbaaRk
import Derived.Test.YtdlmijcnjjdbbaaPl
namespace Go.Proofs.Ytdlmijcnjjdbbaa
open Go Go.RowKit

theorem run_case {chk lens : Bool} {xs ys : List W64} {z : Int} {w w' : World} {e : Ending} (hz : errV chk lens = z) (hys : (if chk && lens then xs else []) = ys) (h : RunPost chk lens xs w e w') :
    ∃ a c, e = .returned (.tuple #[.slice a ys.length c, .int .i64 z]) ∧ WordsAt w' a ys ∧ ys.length ≤ maxLen ∧ Below w.heap.size w w' := by
  obtain ⟨v, he, hv, hb⟩ := h
  rw [hz] at he
  rw [hys] at hv
  obtain ⟨_, a, c, rfl, h1, h2, hw⟩ := ownsRow_words hv
  exact ⟨a, c, he, hw, Nat.le_trans h1 h2, hb⟩
theorem err_case {chk lens : Bool} {z : Int} {w w' : World} {e : Ending} (hz : errV chk lens = z) (h : ErrPost (errV chk lens) w e w') : e = .returned (.int .i64 z) ∧ Below w.heap.size w w' := by rw [hz] at h; exact h
theorem lensB_run (K O M : Nat) (ops : List OpV) : lensB false K O M ops = (decide (K = kn ops 2) && decide (M = kn ops 1)) := by unfold lensB; rw [Bool.and_comm]; rfl
theorem lensB_blind (K O M : Nat) (ops : List OpV) : lensB true K O M ops = (decide (O = kn ops 12) && decide (M = kn ops 1)) := by unfold lensB; rw [Bool.and_comm]; rfl

/-- The law's own boxes: the trace, and what is given. -/
structure LawBox (w : World) (n : Int) (oa : Option Addr) (ol oc : Nat) (ba : Option Addr) (bl bc : Nat) (g0 g1 g2 : Value) (w' : World) : Prop where
  tr : TrBox w w.heap.size n oa ol oc ba bl bc w'
  lt : w.heap.size + 1 < w'.heap.size
  y0 : w'.cell? ⟨w.heap.size + 1, 0, none⟩ = some g0
  y1 : w'.cell? ⟨w.heap.size + 1, 1, none⟩ = some g1
  y2 : w'.cell? ⟨w.heap.size + 1, 2, none⟩ = some g2
theorem LawBox.kept {w : World} {n : Int} {oa : Option Addr} {ol oc : Nat} {ba : Option Addr} {bl bc : Nat} {g0 g1 g2 : Value} {w' w'' : World} (h : LawBox w n oa ol oc ba bl bc g0 g1 g2 w') (hb : Below w'.heap.size w' w'') : LawBox w n oa ol oc ba bl bc g0 g1 g2 w'' :=
  ⟨h.tr.kept hb, Nat.lt_of_lt_of_le h.lt hb.size, (hb.cell (p := ⟨w.heap.size + 1, 0, none⟩) h.lt).trans h.y0, (hb.cell (p := ⟨w.heap.size + 1, 1, none⟩) h.lt).trans h.y1, (hb.cell (p := ⟨w.heap.size + 1, 2, none⟩) h.lt).trans h.y2⟩
theorem LawBox.new (n : Int) (oa : Option Addr) (ol oc : Nat) (ba : Option Addr) (bl bc : Nat) (g0 g1 g2 : Value) (w : World) (t t' : TypeId) :
    LawBox w n oa ol oc ba bl bc g0 g1 g2 ((w.alloc (.cells #[.int .i64 n, .slice oa ol oc, .slice ba bl bc] t)).alloc (.cells #[g0, g1, g2] t')) := by
  have e : (w.alloc (.cells #[.int .i64 n, .slice oa ol oc, .slice ba bl bc] t)).heap.size = w.heap.size + 1 := World.size_alloc ..
  have h0 := World.cell?_alloc_mark (w.alloc (.cells #[.int .i64 n, .slice oa ol oc, .slice ba bl bc] t)) #[g0, g1, g2] t' (0, 0) 0
  have h1 := World.cell?_alloc_mark (w.alloc (.cells #[.int .i64 n, .slice oa ol oc, .slice ba bl bc] t)) #[g0, g1, g2] t' (0, 0) 1
  have h2 := World.cell?_alloc_mark (w.alloc (.cells #[.int .i64 n, .slice oa ol oc, .slice ba bl bc] t)) #[g0, g1, g2] t' (0, 0) 2
  rw [e] at h0 h1 h2
  exact ⟨(TrBox.new n oa ol oc ba bl bc w t).kept (below_al _ _), by rw [World.size_alloc, e]; omega, h0, h1, h2⟩

def TrueE (w : World) (e : Ending) (w' : World) : Prop := e = .returned (.bool true) ∧ Below w.heap.size w w'

section
variable (n : Int) (oa : Option Addr) (oc : Nat) (ops : List OpV) (ba : Option Addr) (bc : Nat) (l : List SpanV) (K O M : List W64) (ka : Option Addr) (kcap : Nat) (pa : Option Addr) (pc : Nat) (ma : Option Addr) (mc : Nat) (ts : List Int) (ta : Option Addr) (tc : Nat) (w : World)
set_option maxRecDepth 100000 in
theorem tells_long (hlen : 400 < ops.length) (hmx : ops.length ≤ maxLen) :
    Calls Try.prog 3 #[.agg #[.int .i64 n, .slice oa ops.length oc, .slice ba l.length bc], .agg #[.slice ka K.length kcap, .slice pa O.length pc, .slice ma M.length mc], .slice ta ts.length tc] w (TrueE w) := by
  unfold maxLen at hmx
  go_enter Try.func3, Try.ntmps3
  go_wp2_with fail
  refine (awake_any _).mono ?_
  rintro e w1 ⟨rfl, hb⟩
  have HB := Lib.hid ((((Below.refl _ w).alloc (Nat.le_refl _) _).alloc (by simp) _).trans (hb.mono (by simp; omega)))
  clear hb
  go_wp2_with fail
  go_ret
  exact ⟨rfl, HB.out⟩
set_option maxRecDepth 100000 in
set_option maxHeartbeats 8000000 in
theorem tells_tt (hlen : ops.length ≤ 400) (hT : TraceAt w oa oc ops ba bc l) (hwf : ∀ o ∈ ops, o.Wf) (hK : WordsAt w ka K) (hO : WordsAt w pa O) (hM : WordsAt w ma M) (hkl : K.length ≤ kcap) (hkc : kcap ≤ maxLen) (hol : O.length ≤ pc) (hoc : pc ≤ maxLen) (hml : M.length ≤ mc) (hmc : mc ≤ maxLen)
    (hts : ts.length * 8 ≤ 140737488351232) (hI : IntsAt w ta ts) (hc : checkB n ops l = true) (hl1 : (decide (K.length = kn ops 2) && decide (M.length = kn ops 1)) = true) (hl2 : (decide (O.length = kn ops 12) && decide (M.length = kn ops 1)) = true) :
    Calls Try.prog 3 #[.agg #[.int .i64 n, .slice oa ops.length oc, .slice ba l.length bc], .agg #[.slice ka K.length kcap, .slice pa O.length pc, .slice ma M.length mc], .slice ta ts.length tc] w (TrueE w) := by
  have HT := Lib.hid hT; have HWF := Lib.hid hwf; have HK := Lib.hid hK; have HO := Lib.hid hO; have HM := Lib.hid hM; have HI := Lib.hid hI; have HC := Lib.hid hc
  have HKM := Lib.hid (Nat.le_trans hkl hkc); have HOM := Lib.hid (Nat.le_trans hol hoc); have HMM := Lib.hid (Nat.le_trans hml hmc)
  have HL1 := Lib.hid hl1; have HL2 := Lib.hid hl2; clear hl1 hl2
  clear hT hwf hK hO hM hI hc
  go_enter Try.func3, Try.ntmps3
  go_wp2_with fail
  have HX := Lib.hid (LawBox.new n oa ops.length oc ba l.length bc (.slice ka K.length kcap) (.slice pa O.length pc) (.slice ma M.length mc) w 25 28)
  refine (run_any n oa oc ops ba bc l K M ka kcap ma mc _ (HT.out.below HX.out.tr.below) HWF.out (HK.out.below HX.out.tr.below) HKM.out (HM.out.below HX.out.tr.below) hml hmc).mono ?_
  intro e w1 h
  obtain ⟨a1, c1, rfl, hw, hn1, hb⟩ := run_case (z := 0) (ys := upV false K [] M ops ops.length) (by rw [HC.out, HL1.out]; rfl) (by rw [HC.out, HL1.out]; rfl) h
  replace HW1 := Lib.hid hw; have HN1 := Lib.hid hn1
  have hx := HX.out.kept hb
  replace t0 := hx.tr.x0; replace t1 := hx.tr.x1; replace t2 := hx.tr.x2; replace y0 := hx.y0; replace y1 := hx.y1; replace y2 := hx.y2
  replace HX := Lib.hid hx
  clear h hw hn1 hb hx
  go_wp2_with fail
  refine (blind_any n oa oc ops ba bc l O M pa pc ma mc _ (HT.out.below HX.out.tr.below) HWF.out (HO.out.below HX.out.tr.below) hol hoc (HM.out.below HX.out.tr.below) hml hmc).mono ?_
  intro e w2 h
  obtain ⟨a2, c2, rfl, hw, hn2, hb⟩ := run_case (z := 0) (ys := upV true [] O M ops ops.length) (by rw [HC.out, HL2.out]; rfl) (by rw [HC.out, HL2.out]; rfl) h
  replace HW1 := Lib.hid (HW1.out.below hb)
  replace HW2 := Lib.hid hw; have HN2 := Lib.hid hn2
  have hx := HX.out.kept hb
  replace t0 := hx.tr.x0; replace t1 := hx.tr.x1; replace t2 := hx.tr.x2; replace y0 := hx.y0; replace y1 := hx.y1; replace y2 := hx.y2
  replace HX := Lib.hid hx
  clear h hw hn2 hb hx
  go_wp2_with fail
  refine (rcheck_any n oa oc ops ba bc l K.length O.length M.length false _ (HT.out.below HX.out.tr.below)).mono ?_
  intro e w3 h
  obtain ⟨rfl, hb⟩ := err_case (z := 0) (by rw [HC.out, lensB_run, HL1.out]; rfl) h
  replace HW1 := Lib.hid (HW1.out.below hb); replace HW2 := Lib.hid (HW2.out.below hb)
  have hx := HX.out.kept hb
  replace t0 := hx.tr.x0; replace t1 := hx.tr.x1; replace t2 := hx.tr.x2; replace y0 := hx.y0; replace y1 := hx.y1; replace y2 := hx.y2
  replace HX := Lib.hid hx
  clear h hb hx
  go_wp2_with fail
  refine (rcheck_any n oa oc ops ba bc l K.length O.length M.length true _ (HT.out.below HX.out.tr.below)).mono ?_
  intro e w4 h
  obtain ⟨rfl, hb⟩ := err_case (z := 0) (by rw [HC.out, lensB_blind, HL2.out]; rfl) h
  replace HW1 := Lib.hid (HW1.out.below hb); replace HW2 := Lib.hid (HW2.out.below hb)
  have hx := HX.out.kept hb
  replace t0 := hx.tr.x0; replace t1 := hx.tr.x1; replace t2 := hx.tr.x2; replace y0 := hx.y0; replace y1 := hx.y1; replace y2 := hx.y2
  replace HX := Lib.hid hx
  clear h hb hx
  go_wp2_with fail
  refine (play_any false K [] M n oa oc ops ba l.length bc ka kcap ma mc none 0 _ (Elems.below HT.out.atOps HX.out.tr.below) (by omega) (HK.out.below HX.out.tr.below) HKM.out (HM.out.below HX.out.tr.below) HMM.out WordsAt.nil (by simp) HWF.out (check_regs HC.out) (fun o ho hk _ => by have h := HL1.out; simp at h; rw [h.1]; exact check_cw HC.out HWF.out o ho hk) (by have h := HL1.out; simp at h; exact h.2) (fun h => by cases h)).mono ?_
  rintro e w5 ⟨v, rfl, hv, hb⟩
  obtain ⟨-, av, cv, rfl, -, -, hw⟩ := ownsRow_words hv
  have HWV := Lib.hid hw
  replace HW1 := Lib.hid (HW1.out.below hb); replace HW2 := Lib.hid (HW2.out.below hb)
  have hx := HX.out.kept hb
  replace t0 := hx.tr.x0; replace t1 := hx.tr.x1; replace t2 := hx.tr.x2; replace y0 := hx.y0; replace y1 := hx.y1; replace y2 := hx.y2
  replace HX := Lib.hid hx
  clear hv hw hb hx
  go_wp2_with fail
  refine (same_any (upV false K [] M ops ops.length) (upV false K [] M ops ops.length) a1 av c1 cv _ HN1.out HN1.out HW1.out HWV.out).mono ?_
  rintro e w6 ⟨rfl, hb⟩
  rw [decide_eq_true rfl]
  replace HW1 := Lib.hid (HW1.out.below hb); replace HW2 := Lib.hid (HW2.out.below hb)
  have hx := HX.out.kept hb
  replace t0 := hx.tr.x0; replace t1 := hx.tr.x1; replace t2 := hx.tr.x2; replace y0 := hx.y0; replace y1 := hx.y1; replace y2 := hx.y2
  replace HX := Lib.hid hx
  clear hb hx HWV
  go_wp2_with fail
  refine (play_any true [] O M n oa oc ops ba l.length bc none 0 ma mc pa pc _ (Elems.below HT.out.atOps HX.out.tr.below) (by omega) WordsAt.nil (by simp) (HM.out.below HX.out.tr.below) HMM.out (HO.out.below HX.out.tr.below) HOM.out HWF.out (check_regs HC.out) (fun o ho hk h => by cases h) (by have h := HL2.out; simp at h; exact h.2) (fun _ => by have h := HL2.out; simp at h; exact h.1)).mono ?_
  rintro e w7 ⟨v, rfl, hv, hb⟩
  obtain ⟨-, av, cv, rfl, -, -, hw⟩ := ownsRow_words hv
  have HWV := Lib.hid hw
  replace HW1 := Lib.hid (HW1.out.below hb); replace HW2 := Lib.hid (HW2.out.below hb)
  have hx := HX.out.kept hb
  replace t0 := hx.tr.x0; replace t1 := hx.tr.x1; replace t2 := hx.tr.x2; replace y0 := hx.y0; replace y1 := hx.y1; replace y2 := hx.y2
  replace HX := Lib.hid hx
  clear hv hw hb hx
  go_wp2_with fail
  refine (same_any (upV true [] O M ops ops.length) (upV true [] O M ops ops.length) a2 av c2 cv _ HN2.out HN2.out HW2.out HWV.out).mono ?_
  rintro e w8 ⟨rfl, hb⟩
  rw [decide_eq_true rfl]
  replace HW1 := Lib.hid (HW1.out.below hb); replace HW2 := Lib.hid (HW2.out.below hb)
  have hx := HX.out.kept hb
  replace t0 := hx.tr.x0; replace t1 := hx.tr.x1; replace t2 := hx.tr.x2; replace y0 := hx.y0; replace y1 := hx.y1; replace y2 := hx.y2
  replace HX := Lib.hid hx
  clear hb hx HWV
  go_wp2_with fail
  obtain ⟨wk, hwk⟩ : ∃ wk, wk = w8 := ⟨_, rfl⟩
  rw [← hwk] at HX HW1 HW2 t0 t1 t2 y0 y1 y2 ⊢
  clear hwk
  have HC2 : Hid (∀ w', Below wk.heap.size wk w' → w'.cell? ⟨w.heap.size + 1, 2, none⟩ = some (.slice ma M.length mc) ∧ w'.cell? ⟨w.heap.size, 0, none⟩ = some (.int .i64 n) ∧ w'.cell? ⟨w.heap.size, 1, none⟩ = some (.slice oa ops.length oc) ∧ w'.cell? ⟨w.heap.size, 2, none⟩ = some (.slice ba l.length bc)) := Lib.hid (fun w' hb => by
    have h := HX.out.kept hb
    exact ⟨h.y2, h.tr.x0, h.tr.x1, h.tr.x2⟩)
  clear t0 t1 t2 y0 y1 y2
  go_region_held3 (fun w' => w'.cell? ⟨w.heap.size + 1, 2, none⟩ = some (.slice ma M.length mc) ∧ w'.cell? ⟨w.heap.size, 0, none⟩ = some (.int .i64 n) ∧ w'.cell? ⟨w.heap.size, 1, none⟩ = some (.slice oa ops.length oc) ∧ w'.cell? ⟨w.heap.size, 2, none⟩ = some (.slice ba l.length bc))
    (first | exact HF.out | exact HC2.out _ (below_drewN' 1))
    (first
      | (go_at_call 12; refine (taps_any M ts ma ta mc tc _ HMM.out hts (HM.out.below HX.out.tr.below.drew) (HI.out.below HX.out.tr.below.drew)).mono ?_; rintro e w11 ⟨r, rfl, hr, hb⟩; obtain ⟨-, ra, rc, rfl, -, -, hwr⟩ := ownsRow_words hr; replace HR := Lib.hid hwr; have HB11 := Lib.hid (below_undrew hb); replace HF := Lib.hid (HC2.out _ HB11.out); replace HX := Lib.hid (HX.out.kept HB11.out); clear hr hwr hb)
      | (go_at_call 13; refine (opened_any n oa oc ops ba l.length bc M ma mc _ (Elems.below HT.out.atOps HX.out.tr.below) (by omega) HMM.out (HM.out.below HX.out.tr.below)).mono ?_; rintro e w12 ⟨q, rfl, hq, hb⟩; obtain ⟨-, qa, qc, rfl, -, -, hwq⟩ := ownsRow_words hq; replace HQ := Lib.hid hwq; replace HR := Lib.hid (HR.out.below hb); replace HF := Lib.hid (HC2.out _ (HB11.out.trans (hb.mono HB11.out.size))); replace HX := Lib.hid (HX.out.kept hb); clear hq hwq hb))
  obtain ⟨y2, t0, t1, t2⟩ := HF.out
  have tl := HX.out.tr.lt
  go_wp2_with fail
  refine (ropens_any n oa oc ops ba l.length bc _ (Elems.below HT.out.atOps HX.out.tr.below) (by omega)).mono ?_
  rintro e w13 ⟨v4, rfl, ho4, hb⟩
  have hi : w13.ownsRow (w12.heap.size + 1) 3 1 v4 (opn 0 ops).length (((opn 0 ops).map fun z : Nat => (z : Int)).map fun x => .int .i64 x) := by
    have e : ints (opn 0 ops) = ((opn 0 ops).map fun z : Nat => (z : Int)).map fun x => .int .i64 x := by simp [ints]
    rw [← e]; exact ho4
  obtain ⟨-, va, vc, rfl, -, -, hia⟩ := ownsRow_ints hi
  have HIA := Lib.hid hia; replace HR := Lib.hid (HR.out.below hb); replace HQ := Lib.hid (HQ.out.below hb); replace HX := Lib.hid (HX.out.kept hb)
  have hol2 : (opn 0 ops).length ≤ 400 := Nat.le_trans (opn_len 0 ops) hlen
  clear hi ho4 hia hb t0 t1 t2 y2
  go_wp2_with fail
  go_loopw [16] (fun i wr => ∃ j : Nat, j ≤ ts.length ∧ i = .int .i64 j ∧ Below w13.heap.size w13 wr) (fun i _ => ts.length - (intOf i).toNat)
  case atStart => exact ⟨0, by omega, rfl, Below.refl _ _⟩
  case round =>
    obtain ⟨j, hj, rfl, hB⟩ := hrel
    by_cases hlt : j < ts.length
    · obtain ⟨t, ht⟩ : ∃ t, ts[j]? = some t := ⟨_, List.getElem?_eq_getElem hlt⟩
      obtain ⟨b1, o1, rfl, hb1, d1⟩ := HI.out.at ht
      obtain ⟨b2, o2, rfl, hb2, d2⟩ := HR.out.at (i := j) (x := atV M t) (by rw [List.getElem?_map, ht]; rfl)
      have hbw := HX.out.tr.below.trans (hB.mono HX.out.tr.below.size)
      have q1 := (hbw.cell (p := ⟨b1, o1 + j, none⟩) hb1).trans d1
      have q2 := (hB.cell (p := ⟨b2, o2 + j, none⟩) hb2).trans d2
      have q3 := (HX.out.kept hB).y2
      have g1 := Nat.lt_of_lt_of_le hb1 hbw.size
      have g2 := Nat.lt_of_lt_of_le hb2 hB.size
      have g3 := (HX.out.kept hB).lt
      have HMw := Lib.hid (HM.out.below hbw)
      have HB := Lib.hid hB
      clear hb1 hb2 d1 d2 hbw hB ht
      go_wp2_with fail
      go_quiet ((go_at_call 15; exact Calls.quiet_of_same ((word_any M t ma mc _ HMM.out (HMw.out.below (below_drewN' _))).mono fun _ _ h => ⟨h.1, h.2.symm⟩)))
      go_wp2_with fail
      go_roundw
      case rel => exact ⟨j + 1, by omega, by simp, HB.out.trans ((below_drewN' _).mono HB.out.size)⟩
      case measure => simp [intOf]; omega
    · obtain rfl : j = ts.length := by omega
      have hbw := HX.out.tr.below.trans (hB.mono HX.out.tr.below.size)
      have HX := Lib.hid (HX.out.kept hB)
      have HQ := Lib.hid (HQ.out.below hB); have HIA := Lib.hid (HIA.out.below hB)
      clear hB hbw
      go_wp2_with fail
      obtain ⟨wz, hwz⟩ : ∃ wz, wz = wr := ⟨_, rfl⟩
      rw [← hwz] at HX HQ HIA ⊢
      clear hwz
      go_loopw [17] (fun i wq => ∃ j : Nat, j ≤ (opn 0 ops).length ∧ i = .int .i64 j ∧ Below wz.heap.size wz wq) (fun i _ => (opn 0 ops).length - (intOf i).toNat)
      case atStart => exact ⟨0, by omega, rfl, Below.refl _ _⟩
      case round =>
        obtain ⟨j, hj, rfl, hB⟩ := hrel
        by_cases hlt : j < (opn 0 ops).length
        · obtain ⟨t, ht⟩ : ∃ t, (opn 0 ops)[j]? = some t := ⟨_, List.getElem?_eq_getElem hlt⟩
          have ht' : ((opn 0 ops).map fun z : Nat => (z : Int))[j]? = some (t : Int) := by rw [List.getElem?_map, ht]; rfl
          obtain ⟨b1, o1, rfl, hb1, d1⟩ := HIA.out.at ht'
          obtain ⟨b2, o2, rfl, hb2, d2⟩ := HQ.out.at (i := j) (x := atV M t) (by rw [List.getElem?_map, ht']; rfl)
          have hbw := HX.out.tr.below.trans (hB.mono HX.out.tr.below.size)
          have q1 := (hB.cell (p := ⟨b1, o1 + j, none⟩) hb1).trans d1
          have q2 := (hB.cell (p := ⟨b2, o2 + j, none⟩) hb2).trans d2
          have q3 := (HX.out.kept hB).y2
          have g1 := Nat.lt_of_lt_of_le hb1 hB.size
          have g2 := Nat.lt_of_lt_of_le hb2 hB.size
          have g3 := (HX.out.kept hB).lt
          have HMw := Lib.hid (HM.out.below hbw)
          have HB := Lib.hid hB
          clear hb1 hb2 d1 d2 hbw hB ht ht'
          go_wp2_with fail
          go_quiet ((go_at_call 15; exact Calls.quiet_of_same ((word_any M t ma mc _ HMM.out (HMw.out.below (below_drewN' _))).mono fun _ _ h => ⟨h.1, h.2.symm⟩)))
          go_wp2_with fail
          go_roundw
          case rel => exact ⟨j + 1, by omega, by simp, HB.out.trans ((below_drewN' _).mono HB.out.size)⟩
          case measure => simp [intOf]; omega
        · obtain rfl : j = (opn 0 ops).length := by omega
          have HB := Lib.hid (HX.out.tr.below.trans (hB.mono HX.out.tr.below.size))
          clear hB
          go_wp2_with fail
          refine (awake_any _).mono ?_
          rintro e w14 ⟨rfl, hb⟩
          replace HB := Lib.hid (HB.out.trans (hb.mono HB.out.size))
          clear hb
          go_wp2_with fail
          go_ret
          exact ⟨rfl, HB.out⟩
set_option maxRecDepth 100000 in
set_option maxHeartbeats 8000000 in
theorem tells_tf (hlen : ops.length ≤ 400) (hT : TraceAt w oa oc ops ba bc l) (hwf : ∀ o ∈ ops, o.Wf) (hK : WordsAt w ka K) (hO : WordsAt w pa O) (hM : WordsAt w ma M) (hkl : K.length ≤ kcap) (hkc : kcap ≤ maxLen) (hol : O.length ≤ pc) (hoc : pc ≤ maxLen) (hml : M.length ≤ mc) (hmc : mc ≤ maxLen)
    (hts : ts.length * 8 ≤ 140737488351232) (hI : IntsAt w ta ts) (hc : checkB n ops l = true) (hl1 : (decide (K.length = kn ops 2) && decide (M.length = kn ops 1)) = true) (hl2 : (decide (O.length = kn ops 12) && decide (M.length = kn ops 1)) = false) :
    Calls Try.prog 3 #[.agg #[.int .i64 n, .slice oa ops.length oc, .slice ba l.length bc], .agg #[.slice ka K.length kcap, .slice pa O.length pc, .slice ma M.length mc], .slice ta ts.length tc] w (TrueE w) := by
  have HT := Lib.hid hT; have HWF := Lib.hid hwf; have HK := Lib.hid hK; have HO := Lib.hid hO; have HM := Lib.hid hM; have HI := Lib.hid hI; have HC := Lib.hid hc
  have HKM := Lib.hid (Nat.le_trans hkl hkc); have HOM := Lib.hid (Nat.le_trans hol hoc); have HMM := Lib.hid (Nat.le_trans hml hmc)
  have HL1 := Lib.hid hl1; have HL2 := Lib.hid hl2; clear hl1 hl2
  clear hT hwf hK hO hM hI hc
  go_enter Try.func3, Try.ntmps3
  go_wp2_with fail
  have HX := Lib.hid (LawBox.new n oa ops.length oc ba l.length bc (.slice ka K.length kcap) (.slice pa O.length pc) (.slice ma M.length mc) w 25 28)
  refine (run_any n oa oc ops ba bc l K M ka kcap ma mc _ (HT.out.below HX.out.tr.below) HWF.out (HK.out.below HX.out.tr.below) HKM.out (HM.out.below HX.out.tr.below) hml hmc).mono ?_
  intro e w1 h
  obtain ⟨a1, c1, rfl, hw, hn1, hb⟩ := run_case (z := 0) (ys := upV false K [] M ops ops.length) (by rw [HC.out, HL1.out]; rfl) (by rw [HC.out, HL1.out]; rfl) h
  replace HW1 := Lib.hid hw; have HN1 := Lib.hid hn1
  have hx := HX.out.kept hb
  replace t0 := hx.tr.x0; replace t1 := hx.tr.x1; replace t2 := hx.tr.x2; replace y0 := hx.y0; replace y1 := hx.y1; replace y2 := hx.y2
  replace HX := Lib.hid hx
  clear h hw hn1 hb hx
  go_wp2_with fail
  refine (blind_any n oa oc ops ba bc l O M pa pc ma mc _ (HT.out.below HX.out.tr.below) HWF.out (HO.out.below HX.out.tr.below) hol hoc (HM.out.below HX.out.tr.below) hml hmc).mono ?_
  intro e w2 h
  obtain ⟨a2, c2, rfl, hw, hn2, hb⟩ := run_case (z := 5) (ys := []) (by rw [HC.out, HL2.out]; rfl) (by rw [HC.out, HL2.out]; rfl) h
  replace HW1 := Lib.hid (HW1.out.below hb)
  replace HW2 := Lib.hid hw; have HN2 := Lib.hid hn2
  have hx := HX.out.kept hb
  replace t0 := hx.tr.x0; replace t1 := hx.tr.x1; replace t2 := hx.tr.x2; replace y0 := hx.y0; replace y1 := hx.y1; replace y2 := hx.y2
  replace HX := Lib.hid hx
  clear h hw hn2 hb hx
  go_wp2_with fail
  refine (rcheck_any n oa oc ops ba bc l K.length O.length M.length false _ (HT.out.below HX.out.tr.below)).mono ?_
  intro e w3 h
  obtain ⟨rfl, hb⟩ := err_case (z := 0) (by rw [HC.out, lensB_run, HL1.out]; rfl) h
  replace HW1 := Lib.hid (HW1.out.below hb); replace HW2 := Lib.hid (HW2.out.below hb)
  have hx := HX.out.kept hb
  replace t0 := hx.tr.x0; replace t1 := hx.tr.x1; replace t2 := hx.tr.x2; replace y0 := hx.y0; replace y1 := hx.y1; replace y2 := hx.y2
  replace HX := Lib.hid hx
  clear h hb hx
  go_wp2_with fail
  refine (rcheck_any n oa oc ops ba bc l K.length O.length M.length true _ (HT.out.below HX.out.tr.below)).mono ?_
  intro e w4 h
  obtain ⟨rfl, hb⟩ := err_case (z := 5) (by rw [HC.out, lensB_blind, HL2.out]; rfl) h
  replace HW1 := Lib.hid (HW1.out.below hb); replace HW2 := Lib.hid (HW2.out.below hb)
  have hx := HX.out.kept hb
  replace t0 := hx.tr.x0; replace t1 := hx.tr.x1; replace t2 := hx.tr.x2; replace y0 := hx.y0; replace y1 := hx.y1; replace y2 := hx.y2
  replace HX := Lib.hid hx
  clear h hb hx
  go_wp2_with fail
  refine (play_any false K [] M n oa oc ops ba l.length bc ka kcap ma mc none 0 _ (Elems.below HT.out.atOps HX.out.tr.below) (by omega) (HK.out.below HX.out.tr.below) HKM.out (HM.out.below HX.out.tr.below) HMM.out WordsAt.nil (by simp) HWF.out (check_regs HC.out) (fun o ho hk _ => by have h := HL1.out; simp at h; rw [h.1]; exact check_cw HC.out HWF.out o ho hk) (by have h := HL1.out; simp at h; exact h.2) (fun h => by cases h)).mono ?_
  rintro e w5 ⟨v, rfl, hv, hb⟩
  obtain ⟨-, av, cv, rfl, -, -, hw⟩ := ownsRow_words hv
  have HWV := Lib.hid hw
  replace HW1 := Lib.hid (HW1.out.below hb); replace HW2 := Lib.hid (HW2.out.below hb)
  have hx := HX.out.kept hb
  replace t0 := hx.tr.x0; replace t1 := hx.tr.x1; replace t2 := hx.tr.x2; replace y0 := hx.y0; replace y1 := hx.y1; replace y2 := hx.y2
  replace HX := Lib.hid hx
  clear hv hw hb hx
  go_wp2_with fail
  refine (same_any (upV false K [] M ops ops.length) (upV false K [] M ops ops.length) a1 av c1 cv _ HN1.out HN1.out HW1.out HWV.out).mono ?_
  rintro e w6 ⟨rfl, hb⟩
  rw [decide_eq_true rfl]
  replace HW1 := Lib.hid (HW1.out.below hb); replace HW2 := Lib.hid (HW2.out.below hb)
  have hx := HX.out.kept hb
  replace t0 := hx.tr.x0; replace t1 := hx.tr.x1; replace t2 := hx.tr.x2; replace y0 := hx.y0; replace y1 := hx.y1; replace y2 := hx.y2
  replace HX := Lib.hid hx
  clear hb hx HWV
  go_wp2_with fail
  obtain ⟨wk, hwk⟩ : ∃ wk, wk = w6 := ⟨_, rfl⟩
  rw [← hwk] at HX HW1 HW2 t0 t1 t2 y0 y1 y2 ⊢
  clear hwk
  have HC2 : Hid (∀ w', Below wk.heap.size wk w' → w'.cell? ⟨w.heap.size + 1, 2, none⟩ = some (.slice ma M.length mc) ∧ w'.cell? ⟨w.heap.size, 0, none⟩ = some (.int .i64 n) ∧ w'.cell? ⟨w.heap.size, 1, none⟩ = some (.slice oa ops.length oc) ∧ w'.cell? ⟨w.heap.size, 2, none⟩ = some (.slice ba l.length bc)) := Lib.hid (fun w' hb => by
    have h := HX.out.kept hb
    exact ⟨h.y2, h.tr.x0, h.tr.x1, h.tr.x2⟩)
  clear t0 t1 t2 y0 y1 y2
  go_region_held3 (fun w' => w'.cell? ⟨w.heap.size + 1, 2, none⟩ = some (.slice ma M.length mc) ∧ w'.cell? ⟨w.heap.size, 0, none⟩ = some (.int .i64 n) ∧ w'.cell? ⟨w.heap.size, 1, none⟩ = some (.slice oa ops.length oc) ∧ w'.cell? ⟨w.heap.size, 2, none⟩ = some (.slice ba l.length bc))
    (first | exact HF.out | exact HC2.out _ (below_drewN' 1))
    (first
      | (go_at_call 12; refine (taps_any M ts ma ta mc tc _ HMM.out hts (HM.out.below HX.out.tr.below.drew) (HI.out.below HX.out.tr.below.drew)).mono ?_; rintro e w11 ⟨r, rfl, hr, hb⟩; obtain ⟨-, ra, rc, rfl, -, -, hwr⟩ := ownsRow_words hr; replace HR := Lib.hid hwr; have HB11 := Lib.hid (below_undrew hb); replace HF := Lib.hid (HC2.out _ HB11.out); replace HX := Lib.hid (HX.out.kept HB11.out); clear hr hwr hb)
      | (go_at_call 13; refine (opened_any n oa oc ops ba l.length bc M ma mc _ (Elems.below HT.out.atOps HX.out.tr.below) (by omega) HMM.out (HM.out.below HX.out.tr.below)).mono ?_; rintro e w12 ⟨q, rfl, hq, hb⟩; obtain ⟨-, qa, qc, rfl, -, -, hwq⟩ := ownsRow_words hq; replace HQ := Lib.hid hwq; replace HR := Lib.hid (HR.out.below hb); replace HF := Lib.hid (HC2.out _ (HB11.out.trans (hb.mono HB11.out.size))); replace HX := Lib.hid (HX.out.kept hb); clear hq hwq hb))
  obtain ⟨y2, t0, t1, t2⟩ := HF.out
  have tl := HX.out.tr.lt
  go_wp2_with fail
  refine (ropens_any n oa oc ops ba l.length bc _ (Elems.below HT.out.atOps HX.out.tr.below) (by omega)).mono ?_
  rintro e w13 ⟨v4, rfl, ho4, hb⟩
  have hi : w13.ownsRow (w12.heap.size + 1) 3 1 v4 (opn 0 ops).length (((opn 0 ops).map fun z : Nat => (z : Int)).map fun x => .int .i64 x) := by
    have e : ints (opn 0 ops) = ((opn 0 ops).map fun z : Nat => (z : Int)).map fun x => .int .i64 x := by simp [ints]
    rw [← e]; exact ho4
  obtain ⟨-, va, vc, rfl, -, -, hia⟩ := ownsRow_ints hi
  have HIA := Lib.hid hia; replace HR := Lib.hid (HR.out.below hb); replace HQ := Lib.hid (HQ.out.below hb); replace HX := Lib.hid (HX.out.kept hb)
  have hol2 : (opn 0 ops).length ≤ 400 := Nat.le_trans (opn_len 0 ops) hlen
  clear hi ho4 hia hb t0 t1 t2 y2
  go_wp2_with fail
  go_loopw [16] (fun i wr => ∃ j : Nat, j ≤ ts.length ∧ i = .int .i64 j ∧ Below w13.heap.size w13 wr) (fun i _ => ts.length - (intOf i).toNat)
  case atStart => exact ⟨0, by omega, rfl, Below.refl _ _⟩
  case round =>
    obtain ⟨j, hj, rfl, hB⟩ := hrel
    by_cases hlt : j < ts.length
    · obtain ⟨t, ht⟩ : ∃ t, ts[j]? = some t := ⟨_, List.getElem?_eq_getElem hlt⟩
      obtain ⟨b1, o1, rfl, hb1, d1⟩ := HI.out.at ht
      obtain ⟨b2, o2, rfl, hb2, d2⟩ := HR.out.at (i := j) (x := atV M t) (by rw [List.getElem?_map, ht]; rfl)
      have hbw := HX.out.tr.below.trans (hB.mono HX.out.tr.below.size)
      have q1 := (hbw.cell (p := ⟨b1, o1 + j, none⟩) hb1).trans d1
      have q2 := (hB.cell (p := ⟨b2, o2 + j, none⟩) hb2).trans d2
      have q3 := (HX.out.kept hB).y2
      have g1 := Nat.lt_of_lt_of_le hb1 hbw.size
      have g2 := Nat.lt_of_lt_of_le hb2 hB.size
      have g3 := (HX.out.kept hB).lt
      have HMw := Lib.hid (HM.out.below hbw)
      have HB := Lib.hid hB
      clear hb1 hb2 d1 d2 hbw hB ht
      go_wp2_with fail
      go_quiet ((go_at_call 15; exact Calls.quiet_of_same ((word_any M t ma mc _ HMM.out (HMw.out.below (below_drewN' _))).mono fun _ _ h => ⟨h.1, h.2.symm⟩)))
      go_wp2_with fail
      go_roundw
      case rel => exact ⟨j + 1, by omega, by simp, HB.out.trans ((below_drewN' _).mono HB.out.size)⟩
      case measure => simp [intOf]; omega
    · obtain rfl : j = ts.length := by omega
      have hbw := HX.out.tr.below.trans (hB.mono HX.out.tr.below.size)
      have HX := Lib.hid (HX.out.kept hB)
      have HQ := Lib.hid (HQ.out.below hB); have HIA := Lib.hid (HIA.out.below hB)
      clear hB hbw
      go_wp2_with fail
      obtain ⟨wz, hwz⟩ : ∃ wz, wz = wr := ⟨_, rfl⟩
      rw [← hwz] at HX HQ HIA ⊢
      clear hwz
      go_loopw [17] (fun i wq => ∃ j : Nat, j ≤ (opn 0 ops).length ∧ i = .int .i64 j ∧ Below wz.heap.size wz wq) (fun i _ => (opn 0 ops).length - (intOf i).toNat)
      case atStart => exact ⟨0, by omega, rfl, Below.refl _ _⟩
      case round =>
        obtain ⟨j, hj, rfl, hB⟩ := hrel
        by_cases hlt : j < (opn 0 ops).length
        · obtain ⟨t, ht⟩ : ∃ t, (opn 0 ops)[j]? = some t := ⟨_, List.getElem?_eq_getElem hlt⟩
          have ht' : ((opn 0 ops).map fun z : Nat => (z : Int))[j]? = some (t : Int) := by rw [List.getElem?_map, ht]; rfl
          obtain ⟨b1, o1, rfl, hb1, d1⟩ := HIA.out.at ht'
          obtain ⟨b2, o2, rfl, hb2, d2⟩ := HQ.out.at (i := j) (x := atV M t) (by rw [List.getElem?_map, ht']; rfl)
          have hbw := HX.out.tr.below.trans (hB.mono HX.out.tr.below.size)
          have q1 := (hB.cell (p := ⟨b1, o1 + j, none⟩) hb1).trans d1
          have q2 := (hB.cell (p := ⟨b2, o2 + j, none⟩) hb2).trans d2
          have q3 := (HX.out.kept hB).y2
          have g1 := Nat.lt_of_lt_of_le hb1 hB.size
          have g2 := Nat.lt_of_lt_of_le hb2 hB.size
          have g3 := (HX.out.kept hB).lt
          have HMw := Lib.hid (HM.out.below hbw)
          have HB := Lib.hid hB
          clear hb1 hb2 d1 d2 hbw hB ht ht'
          go_wp2_with fail
          go_quiet ((go_at_call 15; exact Calls.quiet_of_same ((word_any M t ma mc _ HMM.out (HMw.out.below (below_drewN' _))).mono fun _ _ h => ⟨h.1, h.2.symm⟩)))
          go_wp2_with fail
          go_roundw
          case rel => exact ⟨j + 1, by omega, by simp, HB.out.trans ((below_drewN' _).mono HB.out.size)⟩
          case measure => simp [intOf]; omega
        · obtain rfl : j = (opn 0 ops).length := by omega
          have HB := Lib.hid (HX.out.tr.below.trans (hB.mono HX.out.tr.below.size))
          clear hB
          go_wp2_with fail
          refine (awake_any _).mono ?_
          rintro e w14 ⟨rfl, hb⟩
          replace HB := Lib.hid (HB.out.trans (hb.mono HB.out.size))
          clear hb
          go_wp2_with fail
          go_ret
          exact ⟨rfl, HB.out⟩
set_option maxRecDepth 100000 in
set_option maxHeartbeats 8000000 in
theorem tells_ft (hlen : ops.length ≤ 400) (hT : TraceAt w oa oc ops ba bc l) (hwf : ∀ o ∈ ops, o.Wf) (hK : WordsAt w ka K) (hO : WordsAt w pa O) (hM : WordsAt w ma M) (hkl : K.length ≤ kcap) (hkc : kcap ≤ maxLen) (hol : O.length ≤ pc) (hoc : pc ≤ maxLen) (hml : M.length ≤ mc) (hmc : mc ≤ maxLen)
    (hts : ts.length * 8 ≤ 140737488351232) (hI : IntsAt w ta ts) (hc : checkB n ops l = true) (hl1 : (decide (K.length = kn ops 2) && decide (M.length = kn ops 1)) = false) (hl2 : (decide (O.length = kn ops 12) && decide (M.length = kn ops 1)) = true) :
    Calls Try.prog 3 #[.agg #[.int .i64 n, .slice oa ops.length oc, .slice ba l.length bc], .agg #[.slice ka K.length kcap, .slice pa O.length pc, .slice ma M.length mc], .slice ta ts.length tc] w (TrueE w) := by
  have HT := Lib.hid hT; have HWF := Lib.hid hwf; have HK := Lib.hid hK; have HO := Lib.hid hO; have HM := Lib.hid hM; have HI := Lib.hid hI; have HC := Lib.hid hc
  have HKM := Lib.hid (Nat.le_trans hkl hkc); have HOM := Lib.hid (Nat.le_trans hol hoc); have HMM := Lib.hid (Nat.le_trans hml hmc)
  have HL1 := Lib.hid hl1; have HL2 := Lib.hid hl2; clear hl1 hl2
  clear hT hwf hK hO hM hI hc
  go_enter Try.func3, Try.ntmps3
  go_wp2_with fail
  have HX := Lib.hid (LawBox.new n oa ops.length oc ba l.length bc (.slice ka K.length kcap) (.slice pa O.length pc) (.slice ma M.length mc) w 25 28)
  refine (run_any n oa oc ops ba bc l K M ka kcap ma mc _ (HT.out.below HX.out.tr.below) HWF.out (HK.out.below HX.out.tr.below) HKM.out (HM.out.below HX.out.tr.below) hml hmc).mono ?_
  intro e w1 h
  obtain ⟨a1, c1, rfl, hw, hn1, hb⟩ := run_case (z := 5) (ys := []) (by rw [HC.out, HL1.out]; rfl) (by rw [HC.out, HL1.out]; rfl) h
  replace HW1 := Lib.hid hw; have HN1 := Lib.hid hn1
  have hx := HX.out.kept hb
  replace t0 := hx.tr.x0; replace t1 := hx.tr.x1; replace t2 := hx.tr.x2; replace y0 := hx.y0; replace y1 := hx.y1; replace y2 := hx.y2
  replace HX := Lib.hid hx
  clear h hw hn1 hb hx
  go_wp2_with fail
  refine (blind_any n oa oc ops ba bc l O M pa pc ma mc _ (HT.out.below HX.out.tr.below) HWF.out (HO.out.below HX.out.tr.below) hol hoc (HM.out.below HX.out.tr.below) hml hmc).mono ?_
  intro e w2 h
  obtain ⟨a2, c2, rfl, hw, hn2, hb⟩ := run_case (z := 0) (ys := upV true [] O M ops ops.length) (by rw [HC.out, HL2.out]; rfl) (by rw [HC.out, HL2.out]; rfl) h
  replace HW1 := Lib.hid (HW1.out.below hb)
  replace HW2 := Lib.hid hw; have HN2 := Lib.hid hn2
  have hx := HX.out.kept hb
  replace t0 := hx.tr.x0; replace t1 := hx.tr.x1; replace t2 := hx.tr.x2; replace y0 := hx.y0; replace y1 := hx.y1; replace y2 := hx.y2
  replace HX := Lib.hid hx
  clear h hw hn2 hb hx
  go_wp2_with fail
  refine (rcheck_any n oa oc ops ba bc l K.length O.length M.length false _ (HT.out.below HX.out.tr.below)).mono ?_
  intro e w3 h
  obtain ⟨rfl, hb⟩ := err_case (z := 5) (by rw [HC.out, lensB_run, HL1.out]; rfl) h
  replace HW1 := Lib.hid (HW1.out.below hb); replace HW2 := Lib.hid (HW2.out.below hb)
  have hx := HX.out.kept hb
  replace t0 := hx.tr.x0; replace t1 := hx.tr.x1; replace t2 := hx.tr.x2; replace y0 := hx.y0; replace y1 := hx.y1; replace y2 := hx.y2
  replace HX := Lib.hid hx
  clear h hb hx
  go_wp2_with fail
  refine (rcheck_any n oa oc ops ba bc l K.length O.length M.length true _ (HT.out.below HX.out.tr.below)).mono ?_
  intro e w4 h
  obtain ⟨rfl, hb⟩ := err_case (z := 0) (by rw [HC.out, lensB_blind, HL2.out]; rfl) h
  replace HW1 := Lib.hid (HW1.out.below hb); replace HW2 := Lib.hid (HW2.out.below hb)
  have hx := HX.out.kept hb
  replace t0 := hx.tr.x0; replace t1 := hx.tr.x1; replace t2 := hx.tr.x2; replace y0 := hx.y0; replace y1 := hx.y1; replace y2 := hx.y2
  replace HX := Lib.hid hx
  clear h hb hx
  go_wp2_with fail
  refine (play_any true [] O M n oa oc ops ba l.length bc none 0 ma mc pa pc _ (Elems.below HT.out.atOps HX.out.tr.below) (by omega) WordsAt.nil (by simp) (HM.out.below HX.out.tr.below) HMM.out (HO.out.below HX.out.tr.below) HOM.out HWF.out (check_regs HC.out) (fun o ho hk h => by cases h) (by have h := HL2.out; simp at h; exact h.2) (fun _ => by have h := HL2.out; simp at h; exact h.1)).mono ?_
  rintro e w5 ⟨v, rfl, hv, hb⟩
  obtain ⟨-, av, cv, rfl, -, -, hw⟩ := ownsRow_words hv
  have HWV := Lib.hid hw
  replace HW1 := Lib.hid (HW1.out.below hb); replace HW2 := Lib.hid (HW2.out.below hb)
  have hx := HX.out.kept hb
  replace t0 := hx.tr.x0; replace t1 := hx.tr.x1; replace t2 := hx.tr.x2; replace y0 := hx.y0; replace y1 := hx.y1; replace y2 := hx.y2
  replace HX := Lib.hid hx
  clear hv hw hb hx
  go_wp2_with fail
  refine (same_any (upV true [] O M ops ops.length) (upV true [] O M ops ops.length) a2 av c2 cv _ HN2.out HN2.out HW2.out HWV.out).mono ?_
  rintro e w6 ⟨rfl, hb⟩
  rw [decide_eq_true rfl]
  replace HW1 := Lib.hid (HW1.out.below hb); replace HW2 := Lib.hid (HW2.out.below hb)
  have hx := HX.out.kept hb
  replace t0 := hx.tr.x0; replace t1 := hx.tr.x1; replace t2 := hx.tr.x2; replace y0 := hx.y0; replace y1 := hx.y1; replace y2 := hx.y2
  replace HX := Lib.hid hx
  clear hb hx HWV
  go_wp2_with fail
  obtain ⟨wk, hwk⟩ : ∃ wk, wk = w6 := ⟨_, rfl⟩
  rw [← hwk] at HX HW1 HW2 t0 t1 t2 y0 y1 y2 ⊢
  clear hwk
  have HC2 : Hid (∀ w', Below wk.heap.size wk w' → w'.cell? ⟨w.heap.size + 1, 2, none⟩ = some (.slice ma M.length mc) ∧ w'.cell? ⟨w.heap.size, 0, none⟩ = some (.int .i64 n) ∧ w'.cell? ⟨w.heap.size, 1, none⟩ = some (.slice oa ops.length oc) ∧ w'.cell? ⟨w.heap.size, 2, none⟩ = some (.slice ba l.length bc)) := Lib.hid (fun w' hb => by
    have h := HX.out.kept hb
    exact ⟨h.y2, h.tr.x0, h.tr.x1, h.tr.x2⟩)
  clear t0 t1 t2 y0 y1 y2
  go_region_held3 (fun w' => w'.cell? ⟨w.heap.size + 1, 2, none⟩ = some (.slice ma M.length mc) ∧ w'.cell? ⟨w.heap.size, 0, none⟩ = some (.int .i64 n) ∧ w'.cell? ⟨w.heap.size, 1, none⟩ = some (.slice oa ops.length oc) ∧ w'.cell? ⟨w.heap.size, 2, none⟩ = some (.slice ba l.length bc))
    (first | exact HF.out | exact HC2.out _ (below_drewN' 1))
    (first
      | (go_at_call 12; refine (taps_any M ts ma ta mc tc _ HMM.out hts (HM.out.below HX.out.tr.below.drew) (HI.out.below HX.out.tr.below.drew)).mono ?_; rintro e w11 ⟨r, rfl, hr, hb⟩; obtain ⟨-, ra, rc, rfl, -, -, hwr⟩ := ownsRow_words hr; replace HR := Lib.hid hwr; have HB11 := Lib.hid (below_undrew hb); replace HF := Lib.hid (HC2.out _ HB11.out); replace HX := Lib.hid (HX.out.kept HB11.out); clear hr hwr hb)
      | (go_at_call 13; refine (opened_any n oa oc ops ba l.length bc M ma mc _ (Elems.below HT.out.atOps HX.out.tr.below) (by omega) HMM.out (HM.out.below HX.out.tr.below)).mono ?_; rintro e w12 ⟨q, rfl, hq, hb⟩; obtain ⟨-, qa, qc, rfl, -, -, hwq⟩ := ownsRow_words hq; replace HQ := Lib.hid hwq; replace HR := Lib.hid (HR.out.below hb); replace HF := Lib.hid (HC2.out _ (HB11.out.trans (hb.mono HB11.out.size))); replace HX := Lib.hid (HX.out.kept hb); clear hq hwq hb))
  obtain ⟨y2, t0, t1, t2⟩ := HF.out
  have tl := HX.out.tr.lt
  go_wp2_with fail
  refine (ropens_any n oa oc ops ba l.length bc _ (Elems.below HT.out.atOps HX.out.tr.below) (by omega)).mono ?_
  rintro e w13 ⟨v4, rfl, ho4, hb⟩
  have hi : w13.ownsRow (w12.heap.size + 1) 3 1 v4 (opn 0 ops).length (((opn 0 ops).map fun z : Nat => (z : Int)).map fun x => .int .i64 x) := by
    have e : ints (opn 0 ops) = ((opn 0 ops).map fun z : Nat => (z : Int)).map fun x => .int .i64 x := by simp [ints]
    rw [← e]; exact ho4
  obtain ⟨-, va, vc, rfl, -, -, hia⟩ := ownsRow_ints hi
  have HIA := Lib.hid hia; replace HR := Lib.hid (HR.out.below hb); replace HQ := Lib.hid (HQ.out.below hb); replace HX := Lib.hid (HX.out.kept hb)
  have hol2 : (opn 0 ops).length ≤ 400 := Nat.le_trans (opn_len 0 ops) hlen
  clear hi ho4 hia hb t0 t1 t2 y2
  go_wp2_with fail
  go_loopw [16] (fun i wr => ∃ j : Nat, j ≤ ts.length ∧ i = .int .i64 j ∧ Below w13.heap.size w13 wr) (fun i _ => ts.length - (intOf i).toNat)
  case atStart => exact ⟨0, by omega, rfl, Below.refl _ _⟩
  case round =>
    obtain ⟨j, hj, rfl, hB⟩ := hrel
    by_cases hlt : j < ts.length
    · obtain ⟨t, ht⟩ : ∃ t, ts[j]? = some t := ⟨_, List.getElem?_eq_getElem hlt⟩
      obtain ⟨b1, o1, rfl, hb1, d1⟩ := HI.out.at ht
      obtain ⟨b2, o2, rfl, hb2, d2⟩ := HR.out.at (i := j) (x := atV M t) (by rw [List.getElem?_map, ht]; rfl)
      have hbw := HX.out.tr.below.trans (hB.mono HX.out.tr.below.size)
      have q1 := (hbw.cell (p := ⟨b1, o1 + j, none⟩) hb1).trans d1
      have q2 := (hB.cell (p := ⟨b2, o2 + j, none⟩) hb2).trans d2
      have q3 := (HX.out.kept hB).y2
      have g1 := Nat.lt_of_lt_of_le hb1 hbw.size
      have g2 := Nat.lt_of_lt_of_le hb2 hB.size
      have g3 := (HX.out.kept hB).lt
      have HMw := Lib.hid (HM.out.below hbw)
      have HB := Lib.hid hB
      clear hb1 hb2 d1 d2 hbw hB ht
      go_wp2_with fail
      go_quiet ((go_at_call 15; exact Calls.quiet_of_same ((word_any M t ma mc _ HMM.out (HMw.out.below (below_drewN' _))).mono fun _ _ h => ⟨h.1, h.2.symm⟩)))
      go_wp2_with fail
      go_roundw
      case rel => exact ⟨j + 1, by omega, by simp, HB.out.trans ((below_drewN' _).mono HB.out.size)⟩
      case measure => simp [intOf]; omega
    · obtain rfl : j = ts.length := by omega
      have hbw := HX.out.tr.below.trans (hB.mono HX.out.tr.below.size)
      have HX := Lib.hid (HX.out.kept hB)
      have HQ := Lib.hid (HQ.out.below hB); have HIA := Lib.hid (HIA.out.below hB)
      clear hB hbw
      go_wp2_with fail
      obtain ⟨wz, hwz⟩ : ∃ wz, wz = wr := ⟨_, rfl⟩
      rw [← hwz] at HX HQ HIA ⊢
      clear hwz
      go_loopw [17] (fun i wq => ∃ j : Nat, j ≤ (opn 0 ops).length ∧ i = .int .i64 j ∧ Below wz.heap.size wz wq) (fun i _ => (opn 0 ops).length - (intOf i).toNat)
      case atStart => exact ⟨0, by omega, rfl, Below.refl _ _⟩
      case round =>
        obtain ⟨j, hj, rfl, hB⟩ := hrel
        by_cases hlt : j < (opn 0 ops).length
        · obtain ⟨t, ht⟩ : ∃ t, (opn 0 ops)[j]? = some t := ⟨_, List.getElem?_eq_getElem hlt⟩
          have ht' : ((opn 0 ops).map fun z : Nat => (z : Int))[j]? = some (t : Int) := by rw [List.getElem?_map, ht]; rfl
          obtain ⟨b1, o1, rfl, hb1, d1⟩ := HIA.out.at ht'
          obtain ⟨b2, o2, rfl, hb2, d2⟩ := HQ.out.at (i := j) (x := atV M t) (by rw [List.getElem?_map, ht']; rfl)
          have hbw := HX.out.tr.below.trans (hB.mono HX.out.tr.below.size)
          have q1 := (hB.cell (p := ⟨b1, o1 + j, none⟩) hb1).trans d1
          have q2 := (hB.cell (p := ⟨b2, o2 + j, none⟩) hb2).trans d2
          have q3 := (HX.out.kept hB).y2
          have g1 := Nat.lt_of_lt_of_le hb1 hB.size
          have g2 := Nat.lt_of_lt_of_le hb2 hB.size
          have g3 := (HX.out.kept hB).lt
          have HMw := Lib.hid (HM.out.below hbw)
          have HB := Lib.hid hB
          clear hb1 hb2 d1 d2 hbw hB ht ht'
          go_wp2_with fail
          go_quiet ((go_at_call 15; exact Calls.quiet_of_same ((word_any M t ma mc _ HMM.out (HMw.out.below (below_drewN' _))).mono fun _ _ h => ⟨h.1, h.2.symm⟩)))
          go_wp2_with fail
          go_roundw
          case rel => exact ⟨j + 1, by omega, by simp, HB.out.trans ((below_drewN' _).mono HB.out.size)⟩
          case measure => simp [intOf]; omega
        · obtain rfl : j = (opn 0 ops).length := by omega
          have HB := Lib.hid (HX.out.tr.below.trans (hB.mono HX.out.tr.below.size))
          clear hB
          go_wp2_with fail
          refine (awake_any _).mono ?_
          rintro e w14 ⟨rfl, hb⟩
          replace HB := Lib.hid (HB.out.trans (hb.mono HB.out.size))
          clear hb
          go_wp2_with fail
          go_ret
          exact ⟨rfl, HB.out⟩
set_option maxRecDepth 100000 in
set_option maxHeartbeats 8000000 in
theorem tells_ff (hlen : ops.length ≤ 400) (hT : TraceAt w oa oc ops ba bc l) (hwf : ∀ o ∈ ops, o.Wf) (hK : WordsAt w ka K) (hO : WordsAt w pa O) (hM : WordsAt w ma M) (hkl : K.length ≤ kcap) (hkc : kcap ≤ maxLen) (hol : O.length ≤ pc) (hoc : pc ≤ maxLen) (hml : M.length ≤ mc) (hmc : mc ≤ maxLen)
    (hts : ts.length * 8 ≤ 140737488351232) (hI : IntsAt w ta ts) (hc : checkB n ops l = true) (hl1 : (decide (K.length = kn ops 2) && decide (M.length = kn ops 1)) = false) (hl2 : (decide (O.length = kn ops 12) && decide (M.length = kn ops 1)) = false) :
    Calls Try.prog 3 #[.agg #[.int .i64 n, .slice oa ops.length oc, .slice ba l.length bc], .agg #[.slice ka K.length kcap, .slice pa O.length pc, .slice ma M.length mc], .slice ta ts.length tc] w (TrueE w) := by
  have HT := Lib.hid hT; have HWF := Lib.hid hwf; have HK := Lib.hid hK; have HO := Lib.hid hO; have HM := Lib.hid hM; have HI := Lib.hid hI; have HC := Lib.hid hc
  have HKM := Lib.hid (Nat.le_trans hkl hkc); have HOM := Lib.hid (Nat.le_trans hol hoc); have HMM := Lib.hid (Nat.le_trans hml hmc)
  have HL1 := Lib.hid hl1; have HL2 := Lib.hid hl2; clear hl1 hl2
  clear hT hwf hK hO hM hI hc
  go_enter Try.func3, Try.ntmps3
  go_wp2_with fail
  have HX := Lib.hid (LawBox.new n oa ops.length oc ba l.length bc (.slice ka K.length kcap) (.slice pa O.length pc) (.slice ma M.length mc) w 25 28)
  refine (run_any n oa oc ops ba bc l K M ka kcap ma mc _ (HT.out.below HX.out.tr.below) HWF.out (HK.out.below HX.out.tr.below) HKM.out (HM.out.below HX.out.tr.below) hml hmc).mono ?_
  intro e w1 h
  obtain ⟨a1, c1, rfl, hw, hn1, hb⟩ := run_case (z := 5) (ys := []) (by rw [HC.out, HL1.out]; rfl) (by rw [HC.out, HL1.out]; rfl) h
  replace HW1 := Lib.hid hw; have HN1 := Lib.hid hn1
  have hx := HX.out.kept hb
  replace t0 := hx.tr.x0; replace t1 := hx.tr.x1; replace t2 := hx.tr.x2; replace y0 := hx.y0; replace y1 := hx.y1; replace y2 := hx.y2
  replace HX := Lib.hid hx
  clear h hw hn1 hb hx
  go_wp2_with fail
  refine (blind_any n oa oc ops ba bc l O M pa pc ma mc _ (HT.out.below HX.out.tr.below) HWF.out (HO.out.below HX.out.tr.below) hol hoc (HM.out.below HX.out.tr.below) hml hmc).mono ?_
  intro e w2 h
  obtain ⟨a2, c2, rfl, hw, hn2, hb⟩ := run_case (z := 5) (ys := []) (by rw [HC.out, HL2.out]; rfl) (by rw [HC.out, HL2.out]; rfl) h
  replace HW1 := Lib.hid (HW1.out.below hb)
  replace HW2 := Lib.hid hw; have HN2 := Lib.hid hn2
  have hx := HX.out.kept hb
  replace t0 := hx.tr.x0; replace t1 := hx.tr.x1; replace t2 := hx.tr.x2; replace y0 := hx.y0; replace y1 := hx.y1; replace y2 := hx.y2
  replace HX := Lib.hid hx
  clear h hw hn2 hb hx
  go_wp2_with fail
  refine (rcheck_any n oa oc ops ba bc l K.length O.length M.length false _ (HT.out.below HX.out.tr.below)).mono ?_
  intro e w3 h
  obtain ⟨rfl, hb⟩ := err_case (z := 5) (by rw [HC.out, lensB_run, HL1.out]; rfl) h
  replace HW1 := Lib.hid (HW1.out.below hb); replace HW2 := Lib.hid (HW2.out.below hb)
  have hx := HX.out.kept hb
  replace t0 := hx.tr.x0; replace t1 := hx.tr.x1; replace t2 := hx.tr.x2; replace y0 := hx.y0; replace y1 := hx.y1; replace y2 := hx.y2
  replace HX := Lib.hid hx
  clear h hb hx
  go_wp2_with fail
  refine (rcheck_any n oa oc ops ba bc l K.length O.length M.length true _ (HT.out.below HX.out.tr.below)).mono ?_
  intro e w4 h
  obtain ⟨rfl, hb⟩ := err_case (z := 5) (by rw [HC.out, lensB_blind, HL2.out]; rfl) h
  replace HW1 := Lib.hid (HW1.out.below hb); replace HW2 := Lib.hid (HW2.out.below hb)
  have hx := HX.out.kept hb
  replace t0 := hx.tr.x0; replace t1 := hx.tr.x1; replace t2 := hx.tr.x2; replace y0 := hx.y0; replace y1 := hx.y1; replace y2 := hx.y2
  replace HX := Lib.hid hx
  clear h hb hx
  go_wp2_with fail
  obtain ⟨wk, hwk⟩ : ∃ wk, wk = w4 := ⟨_, rfl⟩
  rw [← hwk] at HX HW1 HW2 t0 t1 t2 y0 y1 y2 ⊢
  clear hwk
  have HC2 : Hid (∀ w', Below wk.heap.size wk w' → w'.cell? ⟨w.heap.size + 1, 2, none⟩ = some (.slice ma M.length mc) ∧ w'.cell? ⟨w.heap.size, 0, none⟩ = some (.int .i64 n) ∧ w'.cell? ⟨w.heap.size, 1, none⟩ = some (.slice oa ops.length oc) ∧ w'.cell? ⟨w.heap.size, 2, none⟩ = some (.slice ba l.length bc)) := Lib.hid (fun w' hb => by
    have h := HX.out.kept hb
    exact ⟨h.y2, h.tr.x0, h.tr.x1, h.tr.x2⟩)
  clear t0 t1 t2 y0 y1 y2
  go_region_held3 (fun w' => w'.cell? ⟨w.heap.size + 1, 2, none⟩ = some (.slice ma M.length mc) ∧ w'.cell? ⟨w.heap.size, 0, none⟩ = some (.int .i64 n) ∧ w'.cell? ⟨w.heap.size, 1, none⟩ = some (.slice oa ops.length oc) ∧ w'.cell? ⟨w.heap.size, 2, none⟩ = some (.slice ba l.length bc))
    (first | exact HF.out | exact HC2.out _ (below_drewN' 1))
    (first
      | (go_at_call 12; refine (taps_any M ts ma ta mc tc _ HMM.out hts (HM.out.below HX.out.tr.below.drew) (HI.out.below HX.out.tr.below.drew)).mono ?_; rintro e w11 ⟨r, rfl, hr, hb⟩; obtain ⟨-, ra, rc, rfl, -, -, hwr⟩ := ownsRow_words hr; replace HR := Lib.hid hwr; have HB11 := Lib.hid (below_undrew hb); replace HF := Lib.hid (HC2.out _ HB11.out); replace HX := Lib.hid (HX.out.kept HB11.out); clear hr hwr hb)
      | (go_at_call 13; refine (opened_any n oa oc ops ba l.length bc M ma mc _ (Elems.below HT.out.atOps HX.out.tr.below) (by omega) HMM.out (HM.out.below HX.out.tr.below)).mono ?_; rintro e w12 ⟨q, rfl, hq, hb⟩; obtain ⟨-, qa, qc, rfl, -, -, hwq⟩ := ownsRow_words hq; replace HQ := Lib.hid hwq; replace HR := Lib.hid (HR.out.below hb); replace HF := Lib.hid (HC2.out _ (HB11.out.trans (hb.mono HB11.out.size))); replace HX := Lib.hid (HX.out.kept hb); clear hq hwq hb))
  obtain ⟨y2, t0, t1, t2⟩ := HF.out
  have tl := HX.out.tr.lt
  go_wp2_with fail
  refine (ropens_any n oa oc ops ba l.length bc _ (Elems.below HT.out.atOps HX.out.tr.below) (by omega)).mono ?_
  rintro e w13 ⟨v4, rfl, ho4, hb⟩
  have hi : w13.ownsRow (w12.heap.size + 1) 3 1 v4 (opn 0 ops).length (((opn 0 ops).map fun z : Nat => (z : Int)).map fun x => .int .i64 x) := by
    have e : ints (opn 0 ops) = ((opn 0 ops).map fun z : Nat => (z : Int)).map fun x => .int .i64 x := by simp [ints]
    rw [← e]; exact ho4
  obtain ⟨-, va, vc, rfl, -, -, hia⟩ := ownsRow_ints hi
  have HIA := Lib.hid hia; replace HR := Lib.hid (HR.out.below hb); replace HQ := Lib.hid (HQ.out.below hb); replace HX := Lib.hid (HX.out.kept hb)
  have hol2 : (opn 0 ops).length ≤ 400 := Nat.le_trans (opn_len 0 ops) hlen
  clear hi ho4 hia hb t0 t1 t2 y2
  go_wp2_with fail
  go_loopw [16] (fun i wr => ∃ j : Nat, j ≤ ts.length ∧ i = .int .i64 j ∧ Below w13.heap.size w13 wr) (fun i _ => ts.length - (intOf i).toNat)
  case atStart => exact ⟨0, by omega, rfl, Below.refl _ _⟩
  case round =>
    obtain ⟨j, hj, rfl, hB⟩ := hrel
    by_cases hlt : j < ts.length
    · obtain ⟨t, ht⟩ : ∃ t, ts[j]? = some t := ⟨_, List.getElem?_eq_getElem hlt⟩
      obtain ⟨b1, o1, rfl, hb1, d1⟩ := HI.out.at ht
      obtain ⟨b2, o2, rfl, hb2, d2⟩ := HR.out.at (i := j) (x := atV M t) (by rw [List.getElem?_map, ht]; rfl)
      have hbw := HX.out.tr.below.trans (hB.mono HX.out.tr.below.size)
      have q1 := (hbw.cell (p := ⟨b1, o1 + j, none⟩) hb1).trans d1
      have q2 := (hB.cell (p := ⟨b2, o2 + j, none⟩) hb2).trans d2
      have q3 := (HX.out.kept hB).y2
      have g1 := Nat.lt_of_lt_of_le hb1 hbw.size
      have g2 := Nat.lt_of_lt_of_le hb2 hB.size
      have g3 := (HX.out.kept hB).lt
      have HMw := Lib.hid (HM.out.below hbw)
      have HB := Lib.hid hB
      clear hb1 hb2 d1 d2 hbw hB ht
      go_wp2_with fail
      go_quiet ((go_at_call 15; exact Calls.quiet_of_same ((word_any M t ma mc _ HMM.out (HMw.out.below (below_drewN' _))).mono fun _ _ h => ⟨h.1, h.2.symm⟩)))
      go_wp2_with fail
      go_roundw
      case rel => exact ⟨j + 1, by omega, by simp, HB.out.trans ((below_drewN' _).mono HB.out.size)⟩
      case measure => simp [intOf]; omega
    · obtain rfl : j = ts.length := by omega
      have hbw := HX.out.tr.below.trans (hB.mono HX.out.tr.below.size)
      have HX := Lib.hid (HX.out.kept hB)
      have HQ := Lib.hid (HQ.out.below hB); have HIA := Lib.hid (HIA.out.below hB)
      clear hB hbw
      go_wp2_with fail
      obtain ⟨wz, hwz⟩ : ∃ wz, wz = wr := ⟨_, rfl⟩
      rw [← hwz] at HX HQ HIA ⊢
      clear hwz
      go_loopw [17] (fun i wq => ∃ j : Nat, j ≤ (opn 0 ops).length ∧ i = .int .i64 j ∧ Below wz.heap.size wz wq) (fun i _ => (opn 0 ops).length - (intOf i).toNat)
      case atStart => exact ⟨0, by omega, rfl, Below.refl _ _⟩
      case round =>
        obtain ⟨j, hj, rfl, hB⟩ := hrel
        by_cases hlt : j < (opn 0 ops).length
        · obtain ⟨t, ht⟩ : ∃ t, (opn 0 ops)[j]? = some t := ⟨_, List.getElem?_eq_getElem hlt⟩
          have ht' : ((opn 0 ops).map fun z : Nat => (z : Int))[j]? = some (t : Int) := by rw [List.getElem?_map, ht]; rfl
          obtain ⟨b1, o1, rfl, hb1, d1⟩ := HIA.out.at ht'
          obtain ⟨b2, o2, rfl, hb2, d2⟩ := HQ.out.at (i := j) (x := atV M t) (by rw [List.getElem?_map, ht']; rfl)
          have hbw := HX.out.tr.below.trans (hB.mono HX.out.tr.below.size)
          have q1 := (hB.cell (p := ⟨b1, o1 + j, none⟩) hb1).trans d1
          have q2 := (hB.cell (p := ⟨b2, o2 + j, none⟩) hb2).trans d2
          have q3 := (HX.out.kept hB).y2
          have g1 := Nat.lt_of_lt_of_le hb1 hB.size
          have g2 := Nat.lt_of_lt_of_le hb2 hB.size
          have g3 := (HX.out.kept hB).lt
          have HMw := Lib.hid (HM.out.below hbw)
          have HB := Lib.hid hB
          clear hb1 hb2 d1 d2 hbw hB ht ht'
          go_wp2_with fail
          go_quiet ((go_at_call 15; exact Calls.quiet_of_same ((word_any M t ma mc _ HMM.out (HMw.out.below (below_drewN' _))).mono fun _ _ h => ⟨h.1, h.2.symm⟩)))
          go_wp2_with fail
          go_roundw
          case rel => exact ⟨j + 1, by omega, by simp, HB.out.trans ((below_drewN' _).mono HB.out.size)⟩
          case measure => simp [intOf]; omega
        · obtain rfl : j = (opn 0 ops).length := by omega
          have HB := Lib.hid (HX.out.tr.below.trans (hB.mono HX.out.tr.below.size))
          clear hB
          go_wp2_with fail
          refine (awake_any _).mono ?_
          rintro e w14 ⟨rfl, hb⟩
          replace HB := Lib.hid (HB.out.trans (hb.mono HB.out.size))
          clear hb
          go_wp2_with fail
          go_ret
          exact ⟨rfl, HB.out⟩
set_option maxRecDepth 100000 in
set_option maxHeartbeats 8000000 in
theorem tells_form (hlen : ops.length ≤ 400) (hT : TraceAt w oa oc ops ba bc l) (hwf : ∀ o ∈ ops, o.Wf) (hK : WordsAt w ka K) (hO : WordsAt w pa O) (hM : WordsAt w ma M) (hkl : K.length ≤ kcap) (hkc : kcap ≤ maxLen) (hol : O.length ≤ pc) (hoc : pc ≤ maxLen) (hml : M.length ≤ mc) (hmc : mc ≤ maxLen)
    (hts : ts.length * 8 ≤ 140737488351232) (hI : IntsAt w ta ts) (hc : checkB n ops l = false) :
    Calls Try.prog 3 #[.agg #[.int .i64 n, .slice oa ops.length oc, .slice ba l.length bc], .agg #[.slice ka K.length kcap, .slice pa O.length pc, .slice ma M.length mc], .slice ta ts.length tc] w (TrueE w) := by
  have HT := Lib.hid hT; have HWF := Lib.hid hwf; have HK := Lib.hid hK; have HO := Lib.hid hO; have HM := Lib.hid hM; have HI := Lib.hid hI; have HC := Lib.hid hc
  have HKM := Lib.hid (Nat.le_trans hkl hkc); have HOM := Lib.hid (Nat.le_trans hol hoc); have HMM := Lib.hid (Nat.le_trans hml hmc)
  skip
  clear hT hwf hK hO hM hI hc
  go_enter Try.func3, Try.ntmps3
  go_wp2_with fail
  have HX := Lib.hid (LawBox.new n oa ops.length oc ba l.length bc (.slice ka K.length kcap) (.slice pa O.length pc) (.slice ma M.length mc) w 25 28)
  refine (run_any n oa oc ops ba bc l K M ka kcap ma mc _ (HT.out.below HX.out.tr.below) HWF.out (HK.out.below HX.out.tr.below) HKM.out (HM.out.below HX.out.tr.below) hml hmc).mono ?_
  intro e w1 h
  obtain ⟨a1, c1, rfl, hw, hn1, hb⟩ := run_case (z := 4) (ys := []) (by rw [HC.out]; rfl) (by rw [HC.out]; rfl) h
  replace HW1 := Lib.hid hw; have HN1 := Lib.hid hn1
  have hx := HX.out.kept hb
  replace t0 := hx.tr.x0; replace t1 := hx.tr.x1; replace t2 := hx.tr.x2; replace y0 := hx.y0; replace y1 := hx.y1; replace y2 := hx.y2
  replace HX := Lib.hid hx
  clear h hw hn1 hb hx
  go_wp2_with fail
  refine (blind_any n oa oc ops ba bc l O M pa pc ma mc _ (HT.out.below HX.out.tr.below) HWF.out (HO.out.below HX.out.tr.below) hol hoc (HM.out.below HX.out.tr.below) hml hmc).mono ?_
  intro e w2 h
  obtain ⟨a2, c2, rfl, hw, hn2, hb⟩ := run_case (z := 4) (ys := []) (by rw [HC.out]; rfl) (by rw [HC.out]; rfl) h
  replace HW1 := Lib.hid (HW1.out.below hb)
  replace HW2 := Lib.hid hw; have HN2 := Lib.hid hn2
  have hx := HX.out.kept hb
  replace t0 := hx.tr.x0; replace t1 := hx.tr.x1; replace t2 := hx.tr.x2; replace y0 := hx.y0; replace y1 := hx.y1; replace y2 := hx.y2
  replace HX := Lib.hid hx
  clear h hw hn2 hb hx
  go_wp2_with fail
  refine (rcheck_any n oa oc ops ba bc l K.length O.length M.length false _ (HT.out.below HX.out.tr.below)).mono ?_
  intro e w3 h
  obtain ⟨rfl, hb⟩ := err_case (z := 4) (by rw [HC.out]; rfl) h
  replace HW1 := Lib.hid (HW1.out.below hb); replace HW2 := Lib.hid (HW2.out.below hb)
  have hx := HX.out.kept hb
  replace t0 := hx.tr.x0; replace t1 := hx.tr.x1; replace t2 := hx.tr.x2; replace y0 := hx.y0; replace y1 := hx.y1; replace y2 := hx.y2
  replace HX := Lib.hid hx
  clear h hb hx
  go_wp2_with fail
  refine (rcheck_any n oa oc ops ba bc l K.length O.length M.length true _ (HT.out.below HX.out.tr.below)).mono ?_
  intro e w4 h
  obtain ⟨rfl, hb⟩ := err_case (z := 4) (by rw [HC.out]; rfl) h
  replace HW1 := Lib.hid (HW1.out.below hb); replace HW2 := Lib.hid (HW2.out.below hb)
  have hx := HX.out.kept hb
  replace t0 := hx.tr.x0; replace t1 := hx.tr.x1; replace t2 := hx.tr.x2; replace y0 := hx.y0; replace y1 := hx.y1; replace y2 := hx.y2
  replace HX := Lib.hid hx
  clear h hb hx
  go_wp2_with fail
  obtain ⟨wk, hwk⟩ : ∃ wk, wk = w4 := ⟨_, rfl⟩
  rw [← hwk] at HX HW1 HW2 t0 t1 t2 y0 y1 y2 ⊢
  clear hwk
  have HC2 : Hid (∀ w', Below wk.heap.size wk w' → w'.cell? ⟨w.heap.size + 1, 2, none⟩ = some (.slice ma M.length mc) ∧ w'.cell? ⟨w.heap.size, 0, none⟩ = some (.int .i64 n) ∧ w'.cell? ⟨w.heap.size, 1, none⟩ = some (.slice oa ops.length oc) ∧ w'.cell? ⟨w.heap.size, 2, none⟩ = some (.slice ba l.length bc)) := Lib.hid (fun w' hb => by
    have h := HX.out.kept hb
    exact ⟨h.y2, h.tr.x0, h.tr.x1, h.tr.x2⟩)
  clear t0 t1 t2 y0 y1 y2
  go_region_held3 (fun w' => w'.cell? ⟨w.heap.size + 1, 2, none⟩ = some (.slice ma M.length mc) ∧ w'.cell? ⟨w.heap.size, 0, none⟩ = some (.int .i64 n) ∧ w'.cell? ⟨w.heap.size, 1, none⟩ = some (.slice oa ops.length oc) ∧ w'.cell? ⟨w.heap.size, 2, none⟩ = some (.slice ba l.length bc))
    (first | exact HF.out | exact HC2.out _ (below_drewN' 1))
    (first
      | (go_at_call 12; refine (taps_any M ts ma ta mc tc _ HMM.out hts (HM.out.below HX.out.tr.below.drew) (HI.out.below HX.out.tr.below.drew)).mono ?_; rintro e w11 ⟨r, rfl, hr, hb⟩; obtain ⟨-, ra, rc, rfl, -, -, hwr⟩ := ownsRow_words hr; replace HR := Lib.hid hwr; have HB11 := Lib.hid (below_undrew hb); replace HF := Lib.hid (HC2.out _ HB11.out); replace HX := Lib.hid (HX.out.kept HB11.out); clear hr hwr hb)
      | (go_at_call 13; refine (opened_any n oa oc ops ba l.length bc M ma mc _ (Elems.below HT.out.atOps HX.out.tr.below) (by omega) HMM.out (HM.out.below HX.out.tr.below)).mono ?_; rintro e w12 ⟨q, rfl, hq, hb⟩; obtain ⟨-, qa, qc, rfl, -, -, hwq⟩ := ownsRow_words hq; replace HQ := Lib.hid hwq; replace HR := Lib.hid (HR.out.below hb); replace HF := Lib.hid (HC2.out _ (HB11.out.trans (hb.mono HB11.out.size))); replace HX := Lib.hid (HX.out.kept hb); clear hq hwq hb))
  obtain ⟨y2, t0, t1, t2⟩ := HF.out
  have tl := HX.out.tr.lt
  go_wp2_with fail
  refine (ropens_any n oa oc ops ba l.length bc _ (Elems.below HT.out.atOps HX.out.tr.below) (by omega)).mono ?_
  rintro e w13 ⟨v4, rfl, ho4, hb⟩
  have hi : w13.ownsRow (w12.heap.size + 1) 3 1 v4 (opn 0 ops).length (((opn 0 ops).map fun z : Nat => (z : Int)).map fun x => .int .i64 x) := by
    have e : ints (opn 0 ops) = ((opn 0 ops).map fun z : Nat => (z : Int)).map fun x => .int .i64 x := by simp [ints]
    rw [← e]; exact ho4
  obtain ⟨-, va, vc, rfl, -, -, hia⟩ := ownsRow_ints hi
  have HIA := Lib.hid hia; replace HR := Lib.hid (HR.out.below hb); replace HQ := Lib.hid (HQ.out.below hb); replace HX := Lib.hid (HX.out.kept hb)
  have hol2 : (opn 0 ops).length ≤ 400 := Nat.le_trans (opn_len 0 ops) hlen
  clear hi ho4 hia hb t0 t1 t2 y2
  go_wp2_with fail
  go_loopw [16] (fun i wr => ∃ j : Nat, j ≤ ts.length ∧ i = .int .i64 j ∧ Below w13.heap.size w13 wr) (fun i _ => ts.length - (intOf i).toNat)
  case atStart => exact ⟨0, by omega, rfl, Below.refl _ _⟩
  case round =>
    obtain ⟨j, hj, rfl, hB⟩ := hrel
    by_cases hlt : j < ts.length
    · obtain ⟨t, ht⟩ : ∃ t, ts[j]? = some t := ⟨_, List.getElem?_eq_getElem hlt⟩
      obtain ⟨b1, o1, rfl, hb1, d1⟩ := HI.out.at ht
      obtain ⟨b2, o2, rfl, hb2, d2⟩ := HR.out.at (i := j) (x := atV M t) (by rw [List.getElem?_map, ht]; rfl)
      have hbw := HX.out.tr.below.trans (hB.mono HX.out.tr.below.size)
      have q1 := (hbw.cell (p := ⟨b1, o1 + j, none⟩) hb1).trans d1
      have q2 := (hB.cell (p := ⟨b2, o2 + j, none⟩) hb2).trans d2
      have q3 := (HX.out.kept hB).y2
      have g1 := Nat.lt_of_lt_of_le hb1 hbw.size
      have g2 := Nat.lt_of_lt_of_le hb2 hB.size
      have g3 := (HX.out.kept hB).lt
      have HMw := Lib.hid (HM.out.below hbw)
      have HB := Lib.hid hB
      clear hb1 hb2 d1 d2 hbw hB ht
      go_wp2_with fail
      go_quiet ((go_at_call 15; exact Calls.quiet_of_same ((word_any M t ma mc _ HMM.out (HMw.out.below (below_drewN' _))).mono fun _ _ h => ⟨h.1, h.2.symm⟩)))
      go_wp2_with fail
      go_roundw
      case rel => exact ⟨j + 1, by omega, by simp, HB.out.trans ((below_drewN' _).mono HB.out.size)⟩
      case measure => simp [intOf]; omega
    · obtain rfl : j = ts.length := by omega
      have hbw := HX.out.tr.below.trans (hB.mono HX.out.tr.below.size)
      have HX := Lib.hid (HX.out.kept hB)
      have HQ := Lib.hid (HQ.out.below hB); have HIA := Lib.hid (HIA.out.below hB)
      clear hB hbw
      go_wp2_with fail
      obtain ⟨wz, hwz⟩ : ∃ wz, wz = wr := ⟨_, rfl⟩
      rw [← hwz] at HX HQ HIA ⊢
      clear hwz
      go_loopw [17] (fun i wq => ∃ j : Nat, j ≤ (opn 0 ops).length ∧ i = .int .i64 j ∧ Below wz.heap.size wz wq) (fun i _ => (opn 0 ops).length - (intOf i).toNat)
      case atStart => exact ⟨0, by omega, rfl, Below.refl _ _⟩
      case round =>
        obtain ⟨j, hj, rfl, hB⟩ := hrel
        by_cases hlt : j < (opn 0 ops).length
        · obtain ⟨t, ht⟩ : ∃ t, (opn 0 ops)[j]? = some t := ⟨_, List.getElem?_eq_getElem hlt⟩
          have ht' : ((opn 0 ops).map fun z : Nat => (z : Int))[j]? = some (t : Int) := by rw [List.getElem?_map, ht]; rfl
          obtain ⟨b1, o1, rfl, hb1, d1⟩ := HIA.out.at ht'
          obtain ⟨b2, o2, rfl, hb2, d2⟩ := HQ.out.at (i := j) (x := atV M t) (by rw [List.getElem?_map, ht']; rfl)
          have hbw := HX.out.tr.below.trans (hB.mono HX.out.tr.below.size)
          have q1 := (hB.cell (p := ⟨b1, o1 + j, none⟩) hb1).trans d1
          have q2 := (hB.cell (p := ⟨b2, o2 + j, none⟩) hb2).trans d2
          have q3 := (HX.out.kept hB).y2
          have g1 := Nat.lt_of_lt_of_le hb1 hB.size
          have g2 := Nat.lt_of_lt_of_le hb2 hB.size
          have g3 := (HX.out.kept hB).lt
          have HMw := Lib.hid (HM.out.below hbw)
          have HB := Lib.hid hB
          clear hb1 hb2 d1 d2 hbw hB ht ht'
          go_wp2_with fail
          go_quiet ((go_at_call 15; exact Calls.quiet_of_same ((word_any M t ma mc _ HMM.out (HMw.out.below (below_drewN' _))).mono fun _ _ h => ⟨h.1, h.2.symm⟩)))
          go_wp2_with fail
          go_roundw
          case rel => exact ⟨j + 1, by omega, by simp, HB.out.trans ((below_drewN' _).mono HB.out.size)⟩
          case measure => simp [intOf]; omega
        · obtain rfl : j = (opn 0 ops).length := by omega
          have HB := Lib.hid (HX.out.tr.below.trans (hB.mono HX.out.tr.below.size))
          clear hB
          go_wp2_with fail
          refine (awake_any _).mono ?_
          rintro e w14 ⟨rfl, hb⟩
          replace HB := Lib.hid (HB.out.trans (hb.mono HB.out.size))
          clear hb
          go_wp2_with fail
          go_ret
          exact ⟨rfl, HB.out⟩
/-- The law, whatever the input. -/
theorem tells_any (hT : TraceAt w oa oc ops ba bc l) (hwf : ∀ o ∈ ops, o.Wf) (hK : WordsAt w ka K) (hO : WordsAt w pa O) (hM : WordsAt w ma M) (hkl : K.length ≤ kcap) (hkc : kcap ≤ maxLen) (hol : O.length ≤ pc) (hoc : pc ≤ maxLen) (hml : M.length ≤ mc) (hmc : mc ≤ maxLen)
    (hts : ts.length * 8 ≤ 140737488351232) (hI : IntsAt w ta ts) :
    Calls Try.prog 3 #[.agg #[.int .i64 n, .slice oa ops.length oc, .slice ba l.length bc], .agg #[.slice ka K.length kcap, .slice pa O.length pc, .slice ma M.length mc], .slice ta ts.length tc] w (TrueE w) := by
  by_cases hlen : ops.length ≤ 400
  · cases hc : checkB n ops l
    · exact tells_form n oa oc ops ba bc l K O M ka kcap pa pc ma mc ts ta tc w hlen hT hwf hK hO hM hkl hkc hol hoc hml hmc hts hI hc
    · cases hl1 : (decide (K.length = kn ops 2) && decide (M.length = kn ops 1)) <;> cases hl2 : (decide (O.length = kn ops 12) && decide (M.length = kn ops 1))
      · exact tells_ff n oa oc ops ba bc l K O M ka kcap pa pc ma mc ts ta tc w hlen hT hwf hK hO hM hkl hkc hol hoc hml hmc hts hI hc hl1 hl2
      · exact tells_ft n oa oc ops ba bc l K O M ka kcap pa pc ma mc ts ta tc w hlen hT hwf hK hO hM hkl hkc hol hoc hml hmc hts hI hc hl1 hl2
      · exact tells_tf n oa oc ops ba bc l K O M ka kcap pa pc ma mc ts ta tc w hlen hT hwf hK hO hM hkl hkc hol hoc hml hmc hts hI hc hl1 hl2
      · exact tells_tt n oa oc ops ba bc l K O M ka kcap pa pc ma mc ts ta tc w hlen hT hwf hK hO hM hkl hkc hol hoc hml hmc hts hI hc hl1 hl2
  · exact tells_long n oa oc ops ba bc l K O M ka kcap pa pc ma mc ts ta tc w (by omega) hT.olen
end
end Go.Proofs.Ytdlmijcnjjdbbaa
