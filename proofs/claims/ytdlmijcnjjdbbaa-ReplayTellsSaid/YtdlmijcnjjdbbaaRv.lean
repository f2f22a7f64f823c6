/- replay.Blind, replay.Opened. Conditions: each lemma's own. -/
import Derived.Test.YtdlmijcnjjdbbaaRu
import Derived.Test.YtdlmijcnjjdbbaaTp
namespace Go.Proofs.Ytdlmijcnjjdbbaa
open Go Go.RowKit

theorem opn_kn : ∀ (i : Nat) (ops : List OpV), (opn i ops).length = kn ops 12
  | _, [] => rfl
  | i, o :: r => by
    rw [kn_cons]
    have ih := opn_kn (i + 1) r
    by_cases h : o.kind = 12 <;> simp [opn, h, ih]

set_option maxRecDepth 100000 in
set_option maxHeartbeats 1000000 in
theorem blind_any (n : Int) (oa : Option Addr) (oc : Nat) (ops : List OpV) (ba : Option Addr) (bc : Nat) (l : List SpanV) (opened masks : List W64) (ka : Option Addr) (kcap : Nat) (ma : Option Addr) (mc : Nat) (w : World) (hT : TraceAt w oa oc ops ba bc l) (hwf : ∀ o ∈ ops, o.Wf)
    (hk : WordsAt w ka opened) (hkl : opened.length ≤ kcap) (hkc : kcap ≤ maxLen) (hmw : WordsAt w ma masks) (hml : masks.length ≤ mc) (hmc : mc ≤ maxLen) :
    Calls Try.prog 8 #[.agg #[.int .i64 n, .slice oa ops.length oc, .slice ba l.length bc], .slice ka opened.length kcap, .slice ma masks.length mc] w
      (RunPost (checkB n ops l) (decide (opened.length = kn ops 12) && decide (masks.length = kn ops 1)) (upV true [] opened masks ops ops.length) w) := by
  have HT := Lib.hid hT; have HWF := Lib.hid hwf; have HK := Lib.hid hk; have HMW := Lib.hid hmw
  clear hT hwf hk hmw
  have w2 : Hid ((opn 0 ops).length = kn ops 12) := Lib.hid (opn_kn 0 ops)
  have w1 : Hid (kc ops 1 = ((kn ops 1 : Nat) : Int)) := Lib.hid (kn_kc ops 1 (by omega) (by omega))
  cases hc : checkB n ops l
  · have HC := Lib.hid hc; clear hc
    go_enter Try.func8, Try.ntmps8
    go_wp2_with fail
    refine (check_any n oa oc ops ba bc l _ (HT.out.below (below_al _ _))).mono ?_
    rintro e w3 ⟨rfl, hb⟩
    rw [HC.out]
    have HB := Lib.hid ((below_al w _).trans (hb.mono (by rw [World.size_alloc]; exact Nat.le_succ _)))
    clear hb
    go_wp2_with fail
    go_ret2
    exact run_form HB.out
  · have HC := Lib.hid hc; clear hc
    have hl0 := check_len HC.out
    by_cases hkn : opened.length = kn ops 12
    · have hkb : (((opened.length : Nat) : Int) != ((kn ops 12 : Nat) : Int)) = false := by simp [hkn]
      have HKN := Lib.hid hkn; clear hkn
      by_cases hmn : masks.length = kn ops 1
      · have hmb : (((masks.length : Nat) : Int) != ((kn ops 1 : Nat) : Int)) = false := by simp [hmn]
        have HMN := Lib.hid hmn; clear hmn
        have E : Hid ((decide (opened.length = kn ops 12) && decide (masks.length = kn ops 1)) = true) := Lib.hid (by simp [HKN.out, HMN.out])
        rw [E.out]
        go_enter Try.func8, Try.ntmps8
        go_wp2_with fail
        refine (check_any n oa oc ops ba bc l _ (HT.out.below (below_al _ _))).mono ?_
        rintro e w3 ⟨rfl, hb⟩
        rw [HC.out]
        have hx := (TrBox.new n oa ops.length oc ba l.length bc w 25).kept hb
        have t0 := hx.x0; have t1 := hx.x1; have t2 := hx.x2
        have HX := Lib.hid hx
        clear hb hx
        go_wp2_with fail
        refine (opens_any n oa oc ops ba l.length bc _ (by exact Elems.below HT.out.atOps HX.out.below) hl0).mono ?_
        rintro e w4 ⟨v4, rfl, ho4, hb⟩
        obtain ⟨va4, vc4, rfl⟩ := ownsRow_slice ho4
        clear ho4
        rw [w2.out]
        have hx := HX.out.kept hb
        have t0 := hx.x0; have t1 := hx.x1; have t2 := hx.x2
        have HX := Lib.hid hx
        clear hb hx
        go_wp2_with fail
        refine (draws_any n oa oc ops ba l.length bc _ (by exact Elems.below HT.out.atOps HX.out.below) HT.out.olen).mono ?_
        rintro e w5 ⟨rfl, hb⟩
        rw [w1.out]
        have hx := HX.out.kept hb
        have t0 := hx.x0; have t1 := hx.x1; have t2 := hx.x2
        have HX := Lib.hid hx
        clear hb hx
        go_wp2_with fail
        refine (all_any true [] opened masks n oa oc ops ba l.length bc none 0 ma mc ka kcap _ (by exact Elems.below HT.out.atOps HX.out.below) hl0 WordsAt.nil (by unfold maxLen; simp) (HMW.out.below HX.out.below) hml hmc (HK.out.below HX.out.below) hkl hkc
          HWF.out (check_regs HC.out) (fun o ho hk h => by cases h) HMN.out (fun _ => HKN.out)).mono ?_
        rintro e w6 ⟨hb, v, rfl, hv⟩
        have HV := Lib.hid hv; have HB := Lib.hid (HX.out.below.trans (hb.mono HX.out.below.size))
        obtain ⟨va, vc, rfl⟩ := ownsRow_slice hv
        clear hv hb
        go_wp2_with fail
        go_ret2
        have hul := upV_length (bl := true) (keys := []) (opened := opened) (masks := masks) (Nat.le_refl ops.length)
        exact run_good (by rw [hul]; exact ownsRow_lower HV.out HX.out.below.size) HB.out
      · have hmb : (((masks.length : Nat) : Int) != ((kn ops 1 : Nat) : Int)) = true := by simp; omega
        have E : Hid ((decide (opened.length = kn ops 12) && decide (masks.length = kn ops 1)) = false) := Lib.hid (by simp [hmn])
        rw [E.out]
        clear hmn
        go_enter Try.func8, Try.ntmps8
        go_wp2_with fail
        refine (check_any n oa oc ops ba bc l _ (HT.out.below (below_al _ _))).mono ?_
        rintro e w3 ⟨rfl, hb⟩
        rw [HC.out]
        have hx := (TrBox.new n oa ops.length oc ba l.length bc w 25).kept hb
        have t0 := hx.x0; have t1 := hx.x1; have t2 := hx.x2
        have HX := Lib.hid hx
        clear hb hx
        go_wp2_with fail
        refine (opens_any n oa oc ops ba l.length bc _ (by exact Elems.below HT.out.atOps HX.out.below) hl0).mono ?_
        rintro e w4 ⟨v4, rfl, ho4, hb⟩
        obtain ⟨va4, vc4, rfl⟩ := ownsRow_slice ho4
        clear ho4
        rw [w2.out]
        have hx := HX.out.kept hb
        have t0 := hx.x0; have t1 := hx.x1; have t2 := hx.x2
        have HX := Lib.hid hx
        clear hb hx
        go_wp2_with fail
        refine (draws_any n oa oc ops ba l.length bc _ (by exact Elems.below HT.out.atOps HX.out.below) HT.out.olen).mono ?_
        rintro e w5 ⟨rfl, hb⟩
        rw [w1.out]
        have HB := Lib.hid (HX.out.kept hb).below
        clear hb
        go_wp2_with fail
        go_ret2
        exact run_lens HB.out
    · have hkb : (((opened.length : Nat) : Int) != ((kn ops 12 : Nat) : Int)) = true := by simp; omega
      have E : Hid ((decide (opened.length = kn ops 12) && decide (masks.length = kn ops 1)) = false) := Lib.hid (by simp [hkn])
      rw [E.out]
      clear hkn
      go_enter Try.func8, Try.ntmps8
      go_wp2_with fail
      refine (check_any n oa oc ops ba bc l _ (HT.out.below (below_al _ _))).mono ?_
      rintro e w3 ⟨rfl, hb⟩
      rw [HC.out]
      have hx := (TrBox.new n oa ops.length oc ba l.length bc w 25).kept hb
      have t0 := hx.x0; have t1 := hx.x1; have t2 := hx.x2
      have HX := Lib.hid hx
      clear hb hx
      go_wp2_with fail
      refine (opens_any n oa oc ops ba l.length bc _ (by exact Elems.below HT.out.atOps HX.out.below) hl0).mono ?_
      rintro e w4 ⟨v4, rfl, ho4, hb⟩
      obtain ⟨va4, vc4, rfl⟩ := ownsRow_slice ho4
      clear ho4
      rw [w2.out]
      have HB := Lib.hid (HX.out.kept hb).below
      clear hb
      go_wp2_with fail
      go_ret2
      exact run_lens HB.out

theorem opened_any (n : Int) (oa : Option Addr) (oc : Nat) (ops : List OpV) (ba : Option Addr) (bl bc : Nat) (v : List W64) (a : Option Addr) (c : Nat) (w : World) (hT : OpsAt w oa ops) (hl : ops.length ≤ 1048576) (hv : v.length ≤ maxLen) (hw : WordsAt w a v) :
    Calls Try.prog 13 #[.agg #[.int .i64 n, .slice oa ops.length oc, .slice ba bl bc], .slice a v.length c] w (TapPost v ((opn 0 ops).map fun z : Nat => (z : Int)) w) := by
  have HT := Lib.hid hT; have HW := Lib.hid hw; clear hT hw
  go_enter Try.func13, Try.ntmps13
  go_wp2_with fail
  refine (opens_any n oa oc ops ba bl bc _ (by exact Elems.below HT.out (below_al _ _)) hl).mono ?_
  rintro e w4 ⟨v4, rfl, ho4, hb⟩
  have hi : w4.ownsRow ((w.alloc (.cells #[.int .i64 n, .slice oa ops.length oc, .slice ba bl bc] 25)).heap.size + 1) 3 1 v4 (opn 0 ops).length (((opn 0 ops).map fun z : Nat => (z : Int)).map fun x => .int .i64 x) := by
    have e : ints (opn 0 ops) = ((opn 0 ops).map fun z : Nat => (z : Int)).map fun x => .int .i64 x := by simp [ints]
    rw [← e]; exact ho4
  obtain ⟨_, va, vc, rfl, _, _, hia⟩ := ownsRow_ints hi
  have hlen : ((opn 0 ops).map fun z : Nat => (z : Int)).length * 8 ≤ 140737488351232 := by rw [List.length_map]; have := opn_len 0 ops; omega
  have hle : (opn 0 ops).length = ((opn 0 ops).map fun z : Nat => (z : Int)).length := by rw [List.length_map]
  have HB := Lib.hid ((below_al w (.cells #[.int .i64 n, .slice oa ops.length oc, .slice ba bl bc] 25)).trans (hb.mono (by rw [World.size_alloc]; exact Nat.le_succ _)))
  have HI := Lib.hid hia; have HLEN := Lib.hid hlen
  clear hia hlen hi ho4 hb
  rw [hle]
  obtain ⟨ts, hts⟩ : ∃ ts, (opn 0 ops).map (fun z : Nat => (z : Int)) = ts := ⟨_, rfl⟩
  rw [hts] at HI HLEN ⊢
  have HTS := Lib.hid hts
  clear hle hts
  go_wp2_with fail
  refine (taps_any v ts a va c vc _ hv HLEN.out (HW.out.below HB.out) HI.out).mono ?_
  rintro e w5 ⟨r, rfl, hr, hb⟩
  have HR := Lib.hid hr; have HB5 := Lib.hid (HB.out.trans (hb.mono HB.out.size))
  clear hr hb
  obtain ⟨ra, rc, rfl⟩ := ownsRow_slice HR.out
  go_wp2_with fail
  go_ret
  exact ⟨_, rfl, by rw [HTS.out]; exact ownsRow_lower HR.out HB.out.size, HB5.out⟩
end Go.Proofs.Ytdlmijcnjjdbbaa
