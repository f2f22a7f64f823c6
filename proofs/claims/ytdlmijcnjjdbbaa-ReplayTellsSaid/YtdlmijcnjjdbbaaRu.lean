/- replay.Run. Conditions: each lemma's own. -/
import Derived.Test.YtdlmijcnjjdbbaaTq
import Derived.Test.YtdlmijcnjjdbbaaTw
import Derived.Test.YtdlmijcnjjdbbaaPy
namespace Go.Proofs.Ytdlmijcnjjdbbaa
open Go Go.RowKit

theorem regOK_lt {i of r j : Int} (h : regOK i of r j = true) (hj : 0 ≤ j) : r < j := by
  unfold regOK at h
  split at h <;> simp at h <;> omega
theorem opsB_at {n : Int} : ∀ {ops : List OpV} {i wd : Nat}, opsB n i wd ops = true → ∀ j o, ops[j]? = some o → rightB o ((i + j : Nat) : Int) n = true ∧ (o.kind = 2 → o.c = ((wd + kn (ops.take j) 2 : Nat) : Int))
  | [], _, _, _, j, o, ho => by simp at ho
  | p :: r, i, wd, h, 0, o, ho => by
    simp at ho
    subst ho
    simp only [opsB, Bool.and_eq_true] at h
    refine ⟨by simpa using h.1, fun hk => ?_⟩
    rw [if_pos hk] at h
    simp at h
    simp [kn, h.2.1]
  | p :: r, i, wd, h, j + 1, o, ho => by
    simp only [opsB, Bool.and_eq_true] at h
    have ho' : r[j]? = some o := by simpa using ho
    have hk : kn ((p :: r).take (j + 1)) 2 = kn (r.take j) 2 + if p.kind = 2 then 1 else 0 := by rw [List.take_succ_cons, kn_cons]
    by_cases hp : p.kind = 2
    · rw [if_pos hp] at h hk
      simp at h
      have ih := opsB_at h.2.2 j o ho'
      rw [show i + 1 + j = i + (j + 1) by omega] at ih
      exact ⟨ih.1, fun h2 => by rw [ih.2 h2, hk]; congr 1; omega⟩
    · rw [if_neg hp] at h hk
      have ih := opsB_at h.2 j o ho'
      rw [show i + 1 + j = i + (j + 1) by omega] at ih
      exact ⟨ih.1, fun h2 => by rw [ih.2 h2, hk]; congr 1⟩
theorem check_regs {n : Int} {ops : List OpV} {l : List SpanV} (h : checkB n ops l = true) (j : Nat) (o : OpV) (ho : ops[j]? = some o) : o.a < (j : Int) ∧ o.b < (j : Int) ∧ o.d < (j : Int) := by
  unfold checkB at h
  simp only [Bool.and_eq_true] at h
  have hr := (opsB_at h.2 j o ho).1
  rw [Nat.zero_add] at hr
  unfold rightB at hr
  simp only [Bool.and_eq_true] at hr
  exact ⟨regOK_lt hr.1.1.1.2 (by omega), regOK_lt hr.1.1.2 (by omega), regOK_lt hr.1.2 (by omega)⟩
theorem check_len {n : Int} {ops : List OpV} {l : List SpanV} (h : checkB n ops l = true) : ops.length ≤ 1048576 := by
  unfold checkB at h
  simp at h
  exact h.1.1.2
theorem check_keys {n : Int} {ops : List OpV} {l : List SpanV} (h : checkB n ops l = true) {j : Nat} {o : OpV} (ho : ops[j]? = some o) (hk : o.kind = 2) : o.c = ((kn (ops.take j) 2 : Nat) : Int) := by
  unfold checkB at h
  simp only [Bool.and_eq_true] at h
  have := (opsB_at h.2 j o ho).2 hk
  simpa using this
theorem U_toNat (a : W64) : U a = ((a.toNat : Nat) : Int) := rfl
theorem cw_nat {o : OpV} (hw : o.Wf) {k : Nat} (h : o.c = (k : Int)) : (cw o).toNat = k := by
  obtain ⟨a, ha⟩ := U_of hw.c
  unfold cw
  rw [ha, ofInt_U]
  rw [ha, U_toNat] at h
  omega
theorem check_cw {n : Int} {ops : List OpV} {l : List SpanV} (h : checkB n ops l = true) (hwf : ∀ o ∈ ops, o.Wf) (o : OpV) (ho : o ∈ ops) (hk : o.kind = 2) : (cw o).toNat < kn ops 2 := by
  obtain ⟨j, hj⟩ := List.getElem?_of_mem ho
  rw [cw_nat (hwf o ho) (check_keys h hj hk)]
  exact kn_lt hj hk

/-- How a run ends. -/
def errV (chk lens : Bool) : Int := if chk = true then (if lens = true then 0 else 5) else 4
def RunPost (chk lens : Bool) (xs : List W64) (w : World) (e : Ending) (w' : World) : Prop :=
  ∃ v, e = .returned (.tuple #[v, .int .i64 (errV chk lens)]) ∧ w'.ownsRow w.heap.size 40 1 v (if chk && lens then xs else []).length ((if chk && lens then xs else []).map fun x => .int .u64 (U x)) ∧ Below w.heap.size w w'
theorem run_form {lens : Bool} {xs : List W64} {w w' : World} (hb : Below w.heap.size w w') : RunPost false lens xs w (.returned (.tuple #[.slice none 0 0, .int .i64 4])) w' := ⟨_, rfl, by simpa using World.ownsRow_nil _ _ _ _, hb⟩
theorem run_lens {xs : List W64} {w w' : World} (hb : Below w.heap.size w w') : RunPost true false xs w (.returned (.tuple #[.slice none 0 0, .int .i64 5])) w' := ⟨_, rfl, by simpa using World.ownsRow_nil _ _ _ _, hb⟩
theorem run_good {xs : List W64} {w w' : World} {v : Value} (h : w'.ownsRow w.heap.size 40 1 v xs.length (xs.map fun x => .int .u64 (U x))) (hb : Below w.heap.size w w') : RunPost true true xs w (.returned (.tuple #[v, .int .i64 0])) w' := ⟨_, rfl, by simpa using h, hb⟩
theorem ownsRow_lower {w : World} {base base' : Nat} {e : TypeId} {size : Nat} {v : Value} {n : Nat} {xs : List Value} (h : w.ownsRow base e size v n xs) (hb : base' ≤ base) : w.ownsRow base' e size v n xs := by
  refine ⟨h.1, ?_⟩
  rcases h.2 with hn | ⟨g, cap, cur, e1, e2, rest⟩
  · exact .inl hn
  · exact .inr ⟨g, cap, cur, e1, Nat.le_trans hb e2, rest⟩

/-- What stands in the box of a trace, in a world that grew. -/
structure TrBox (w : World) (b : Nat) (n : Int) (oa : Option Addr) (ol oc : Nat) (ba : Option Addr) (bl bc : Nat) (w' : World) : Prop where
  below : Below w.heap.size w w'
  ge : w.heap.size ≤ b
  lt : b < w'.heap.size
  x0 : w'.cell? ⟨b, 0, none⟩ = some (.int .i64 n)
  x1 : w'.cell? ⟨b, 1, none⟩ = some (.slice oa ol oc)
  x2 : w'.cell? ⟨b, 2, none⟩ = some (.slice ba bl bc)
theorem TrBox.kept {w : World} {b : Nat} {n : Int} {oa : Option Addr} {ol oc : Nat} {ba : Option Addr} {bl bc : Nat} {w' w'' : World} (h : TrBox w b n oa ol oc ba bl bc w') (hb : Below w'.heap.size w' w'') : TrBox w b n oa ol oc ba bl bc w'' :=
  ⟨h.below.trans (hb.mono h.below.size), h.ge, Nat.lt_of_lt_of_le h.lt hb.size, (hb.cell (p := ⟨b, 0, none⟩) h.lt).trans h.x0, (hb.cell (p := ⟨b, 1, none⟩) h.lt).trans h.x1, (hb.cell (p := ⟨b, 2, none⟩) h.lt).trans h.x2⟩
theorem TrBox.new (n : Int) (oa : Option Addr) (ol oc : Nat) (ba : Option Addr) (bl bc : Nat) (w : World) (t : TypeId) : TrBox w w.heap.size n oa ol oc ba bl bc (w.alloc (.cells #[.int .i64 n, .slice oa ol oc, .slice ba bl bc] t)) :=
  ⟨below_al _ _, Nat.le_refl _, by rw [World.size_alloc]; exact Nat.lt_succ_self _, World.cell?_alloc_mark _ _ _ _ _, World.cell?_alloc_mark _ _ _ _ _, World.cell?_alloc_mark _ _ _ _ _⟩

set_option maxRecDepth 100000 in
set_option maxHeartbeats 1000000 in
theorem run_any (n : Int) (oa : Option Addr) (oc : Nat) (ops : List OpV) (ba : Option Addr) (bc : Nat) (l : List SpanV) (keys masks : List W64) (ka : Option Addr) (kcap : Nat) (ma : Option Addr) (mc : Nat) (w : World) (hT : TraceAt w oa oc ops ba bc l) (hwf : ∀ o ∈ ops, o.Wf)
    (hk : WordsAt w ka keys) (hkl : keys.length ≤ maxLen) (hmw : WordsAt w ma masks) (hml : masks.length ≤ mc) (hmc : mc ≤ maxLen) :
    Calls Try.prog 7 #[.agg #[.int .i64 n, .slice oa ops.length oc, .slice ba l.length bc], .slice ka keys.length kcap, .slice ma masks.length mc] w
      (RunPost (checkB n ops l) (decide (keys.length = kn ops 2) && decide (masks.length = kn ops 1)) (upV false keys [] masks ops ops.length) w) := by
  have HT := Lib.hid hT; have HWF := Lib.hid hwf; have HK := Lib.hid hk; have HMW := Lib.hid hmw
  clear hT hwf hk hmw
  have w2 : Hid (kc ops 2 = ((kn ops 2 : Nat) : Int)) := Lib.hid (kn_kc ops 2 (by omega) (by omega))
  have w1 : Hid (kc ops 1 = ((kn ops 1 : Nat) : Int)) := Lib.hid (kn_kc ops 1 (by omega) (by omega))
  cases hc : checkB n ops l
  · have HC := Lib.hid hc; clear hc
    go_enter Try.func7, Try.ntmps7
    go_wp2_with fail
    refine (check_any n oa oc ops ba bc l _ (HT.out.below (below_al _ _))).mono ?_
    rintro e w3 ⟨rfl, hb⟩
    rw [HC.out]
    have HB := Lib.hid ((below_al w _).trans (hb.mono (by rw [World.size_alloc]; exact Nat.le_succ _)))
    clear hb
    go_wp2_with fail
    go_ret2
    exact run_form HB.out
  · have HC := Lib.hid hc; clear hc
    have hl0 := check_len HC.out
    by_cases hkn : keys.length = kn ops 2
    · have hkb : (((keys.length : Nat) : Int) != ((kn ops 2 : Nat) : Int)) = false := by simp [hkn]
      have HKN := Lib.hid hkn; clear hkn
      by_cases hmn : masks.length = kn ops 1
      · have hmb : (((masks.length : Nat) : Int) != ((kn ops 1 : Nat) : Int)) = false := by simp [hmn]
        have HMN := Lib.hid hmn; clear hmn
        have E : Hid ((decide (keys.length = kn ops 2) && decide (masks.length = kn ops 1)) = true) := Lib.hid (by simp [HKN.out, HMN.out])
        rw [E.out]
        go_enter Try.func7, Try.ntmps7
        go_wp2_with fail
        refine (check_any n oa oc ops ba bc l _ (HT.out.below (below_al _ _))).mono ?_
        rintro e w3 ⟨rfl, hb⟩
        rw [HC.out]
        have hx := (TrBox.new n oa ops.length oc ba l.length bc w 25).kept hb
        have t0 := hx.x0; have t1 := hx.x1; have t2 := hx.x2
        have HX := Lib.hid hx
        clear hb hx
        go_wp2_with fail
        refine (words_any n oa oc ops ba l.length bc _ (by exact Elems.below HT.out.atOps HX.out.below) HT.out.olen).mono ?_
        rintro e w4 ⟨rfl, hb⟩
        rw [w2.out]
        have hx := HX.out.kept hb
        have t0 := hx.x0; have t1 := hx.x1; have t2 := hx.x2
        have HX := Lib.hid hx
        clear hb hx
        go_wp2_with fail
        refine (draws_any n oa oc ops ba l.length bc _ (by exact Elems.below HT.out.atOps HX.out.below) HT.out.olen).mono ?_
        rintro e w5 ⟨rfl, hb⟩
        rw [w1.out]
        have hx := HX.out.kept hb
        have t0 := hx.x0; have t1 := hx.x1; have t2 := hx.x2
        have HX := Lib.hid hx
        clear hb hx
        go_wp2_with fail
        refine (all_any false keys [] masks n oa oc ops ba l.length bc ka kcap ma mc none 0 _ (by exact Elems.below HT.out.atOps HX.out.below) hl0 (HK.out.below HX.out.below) hkl (HMW.out.below HX.out.below) hml hmc WordsAt.nil (Nat.le_refl _) (by unfold maxLen; omega)
          HWF.out (check_regs HC.out) (fun o ho hk _ => by rw [HKN.out]; exact check_cw HC.out HWF.out o ho hk) HMN.out (fun h => by cases h)).mono ?_
        rintro e w6 ⟨hb, v, rfl, hv⟩
        have HV := Lib.hid hv; have HB := Lib.hid (HX.out.below.trans (hb.mono HX.out.below.size))
        obtain ⟨va, vc, rfl⟩ := ownsRow_slice hv
        clear hv hb
        go_wp2_with fail
        go_ret2
        have hul := upV_length (bl := false) (keys := keys) (opened := []) (masks := masks) (Nat.le_refl ops.length)
        exact run_good (by rw [hul]; exact ownsRow_lower HV.out HX.out.below.size) HB.out
      · have hmb : (((masks.length : Nat) : Int) != ((kn ops 1 : Nat) : Int)) = true := by simp; omega
        have E : Hid ((decide (keys.length = kn ops 2) && decide (masks.length = kn ops 1)) = false) := Lib.hid (by simp [hmn])
        rw [E.out]
        clear hmn
        go_enter Try.func7, Try.ntmps7
        go_wp2_with fail
        refine (check_any n oa oc ops ba bc l _ (HT.out.below (below_al _ _))).mono ?_
        rintro e w3 ⟨rfl, hb⟩
        rw [HC.out]
        have hx := (TrBox.new n oa ops.length oc ba l.length bc w 25).kept hb
        have t0 := hx.x0; have t1 := hx.x1; have t2 := hx.x2
        have HX := Lib.hid hx
        clear hb hx
        go_wp2_with fail
        refine (words_any n oa oc ops ba l.length bc _ (by exact Elems.below HT.out.atOps HX.out.below) HT.out.olen).mono ?_
        rintro e w4 ⟨rfl, hb⟩
        rw [w2.out]
        have hx := HX.out.kept hb
        have t0 := hx.x0; have t1 := hx.x1; have t2 := hx.x2
        have HX := Lib.hid hx
        clear hb hx
        go_wp2_with fail
        refine (draws_any n oa oc ops ba l.length bc _ (by exact Elems.below HT.out.atOps HX.out.below) HT.out.olen).mono ?_
        rintro e w5 ⟨rfl, hb⟩
        rw [w1.out]
        have HB := Lib.hid (HX.out.kept hb).below
        clear hb
        go_wp2_with fail
        go_ret2
        exact run_lens HB.out
    · have hkb : (((keys.length : Nat) : Int) != ((kn ops 2 : Nat) : Int)) = true := by simp; omega
      have E : Hid ((decide (keys.length = kn ops 2) && decide (masks.length = kn ops 1)) = false) := Lib.hid (by simp [hkn])
      rw [E.out]
      clear hkn
      go_enter Try.func7, Try.ntmps7
      go_wp2_with fail
      refine (check_any n oa oc ops ba bc l _ (HT.out.below (below_al _ _))).mono ?_
      rintro e w3 ⟨rfl, hb⟩
      rw [HC.out]
      have hx := (TrBox.new n oa ops.length oc ba l.length bc w 25).kept hb
      have t0 := hx.x0; have t1 := hx.x1; have t2 := hx.x2
      have HX := Lib.hid hx
      clear hb hx
      go_wp2_with fail
      refine (words_any n oa oc ops ba l.length bc _ (by exact Elems.below HT.out.atOps HX.out.below) HT.out.olen).mono ?_
      rintro e w4 ⟨rfl, hb⟩
      rw [w2.out]
      have HB := Lib.hid (HX.out.kept hb).below
      clear hb
      go_wp2_with fail
      go_ret2
      exact run_lens HB.out
end Go.Proofs.Ytdlmijcnjjdbbaa
