/- visorref18.Right: may a trace be. Conditions: each lemma's own. -/
import Derived.Test.YtdlmijcnjjdbbaaTc
import Derived.Test.YtdlmijcnjjdbbaaOps
namespace Go.Proofs.Ytdlmijcnjjdbbaa
open Go Go.RowKit

theorem below_undrew {w w' : World} {n : Nat} (h : Below n w.drew w') : Below n w w' := ⟨h.os, h.tape, h.output, h.size, h.block⟩

/-- What stands in the box of a trace. -/
structure BoxT (b : Nat) (n : Int) (oa : Option Addr) (ol oc : Nat) (ba : Option Addr) (bl bc : Nat) (w : World) : Prop where
  lt : b < w.heap.size
  x0 : w.cell? ⟨b, 0, none⟩ = some (.int .i64 n)
  x1 : w.cell? ⟨b, 1, none⟩ = some (.slice oa ol oc)
  x2 : w.cell? ⟨b, 2, none⟩ = some (.slice ba bl bc)
theorem BoxT.kept {b : Nat} {n : Int} {oa : Option Addr} {ol oc : Nat} {ba : Option Addr} {bl bc : Nat} {w w' : World} (h : BoxT b n oa ol oc ba bl bc w) (hb : Below w.heap.size w w') : BoxT b n oa ol oc ba bl bc w' :=
  ⟨Nat.lt_of_lt_of_le h.lt hb.size, (hb.cell (p := ⟨b, 0, none⟩) h.lt).trans h.x0, (hb.cell (p := ⟨b, 1, none⟩) h.lt).trans h.x1, (hb.cell (p := ⟨b, 2, none⟩) h.lt).trans h.x2⟩
theorem BoxT.new (n : Int) (oa : Option Addr) (ol oc : Nat) (ba : Option Addr) (bl bc : Nat) (w : World) (t : TypeId) : BoxT w.heap.size n oa ol oc ba bl bc (w.alloc (.cells #[.int .i64 n, .slice oa ol oc, .slice ba bl bc] t)) :=
  ⟨by rw [World.size_alloc]; exact Nat.lt_succ_self _, World.cell?_alloc_mark _ _ _ _ _, World.cell?_alloc_mark _ _ _ _ _, World.cell?_alloc_mark _ _ _ _ _⟩

/-- The first loop of the document's Right: which ops have passed. -/
structure RrSt (w : World) (n : Int) (oa : Option Addr) (oc : Nat) (ba : Option Addr) (bc : Nat) (ops : List OpV) (l : List SpanV) (j wd : Nat) (wr : World) : Prop where
  below : Below w.heap.size w wr
  box : BoxT w.heap.size n oa ops.length oc ba l.length bc wr
  le : wd ≤ j
  res : Hid (opsB n 0 0 ops = opsB n j wd (ops.drop j))
theorem RrSt.next {w : World} {n : Int} {oa : Option Addr} {oc : Nat} {ba : Option Addr} {bc : Nat} {ops : List OpV} {l : List SpanV} {j wd : Nat} {wr : World} (h : RrSt w n oa oc ba bc ops l j wd wr) {w' : World} (hb : Below wr.heap.size wr w') (wd' : Nat)
    (hle : wd' ≤ j + 1) (hr : opsB n j wd (ops.drop j) = opsB n (j + 1) wd' (ops.drop (j + 1))) : RrSt w n oa oc ba bc ops l (j + 1) wd' w' :=
  ⟨h.below.trans (hb.mono (Nat.le_of_lt h.box.lt)), h.box.kept hb, hle, Lib.hid (by rw [h.res.out, hr])⟩

def TruePost (B : Bool) (w : World) (e : Ending) (w' : World) : Prop := e = .returned (.bool B) ∧ Below w.heap.size w w'

set_option maxRecDepth 100000 in
set_option maxHeartbeats 4000000 in
theorem rright_loops (n : Int) (hn : n = 2 ∨ n = 3) (oa : Option Addr) (oc : Nat) (ops : List OpV) (ba : Option Addr) (bc : Nat) (l : List SpanV) (hlen : ops.length ≤ 1048576) (w : World) (hT : TraceAt w oa oc ops ba bc l) :
    Calls Try.prog 17 #[.agg #[.int .i64 n, .slice oa ops.length oc, .slice ba l.length bc]] w (TruePost (checkB n ops l) w) := by
  have HT := Lib.hid hT; clear hT
  have EB : Hid (checkB n ops l = (orderedB ops.length 0 l && opsB n 0 0 ops)) := Lib.hid (by simp [checkB, hlen, hn])
  have HN := Lib.hid hn
  have hn' : ((n != 2) = false) ∨ ((n != 2) = true ∧ (n != 3) = false) := by
    rcases hn with rfl | rfl
    · exact .inl rfl
    · exact .inr ⟨rfl, rfl⟩
  clear hn
  rcases hn' with n2 | ⟨n2, n3⟩
  all_goals
    go_enter Try.func17, Try.ntmps17
    go_wp2_with fail
    go_loopw [3, 4] (fun la i wr => ∃ (j wd : Nat), j ≤ ops.length ∧ i = .int .i64 j ∧ la = .int .u64 wd ∧ RrSt w n oa oc ba bc ops l j wd wr) (fun la i _ => ops.length - (intOf i).toNat)
    case atStart => exact ⟨0, 0, by omega, rfl, rfl, ⟨below_al _ _, BoxT.new .., by omega, Lib.hid rfl⟩⟩
    case round =>
      obtain ⟨j, wd, hj, rfl, rfl, hst⟩ := hrel
      have t0 := hst.box.x0
      have t1 := hst.box.x1
      have t2 := hst.box.x2
      by_cases hlt : j < ops.length
      · obtain ⟨o, ho⟩ : ∃ o, ops[j]? = some o := ⟨_, List.getElem?_eq_getElem hlt⟩
        obtain ⟨b, off, rfl, hb, c0, c1, c2, c3, c4, c5⟩ := HT.out.atOps.at ho
        obtain ⟨kind, dom, ra, rb, rd, c⟩ := o
        have hle := hst.le
        have hlb := Nat.lt_of_lt_of_le hb hst.below.size
        have q0 := (hst.below.cell (p := ⟨b, off + j * 6, none⟩) hb).trans c0
        have hc : ∀ w', Below wr.heap.size wr w' → w'.cell? ⟨w.heap.size, 0, none⟩ = some (.int .i64 n) ∧ w'.cell? ⟨w.heap.size, 1, none⟩ = some (.slice (some ⟨b, off, none⟩) ops.length oc) ∧ w'.cell? ⟨b, off + j * 6, none⟩ = some (.int .i64 kind) ∧
            w'.cell? ⟨b, off + j * 6 + 1, none⟩ = some (.int .i64 dom) ∧ w'.cell? ⟨b, off + j * 6 + 2, none⟩ = some (.int .i64 ra) ∧ w'.cell? ⟨b, off + j * 6 + 3, none⟩ = some (.int .i64 rb) ∧ w'.cell? ⟨b, off + j * 6 + 4, none⟩ = some (.int .i64 rd) ∧ w'.cell? ⟨b, off + j * 6 + 5, none⟩ = some (.int .u64 c) := by
          intro w' hb'
          have hx := hst.box.kept hb'
          have hy := hst.below.trans (hb'.mono (Nat.le_of_lt hst.box.lt))
          exact ⟨hx.x0, hx.x1, (hy.cell (p := ⟨b, off + j * 6, none⟩) hb).trans c0, (hy.cell (p := ⟨b, off + j * 6 + 1, none⟩) hb).trans c1, (hy.cell (p := ⟨b, off + j * 6 + 2, none⟩) hb).trans c2,
            (hy.cell (p := ⟨b, off + j * 6 + 3, none⟩) hb).trans c3, (hy.cell (p := ⟨b, off + j * 6 + 4, none⟩) hb).trans c4, (hy.cell (p := ⟨b, off + j * 6 + 5, none⟩) hb).trans c5⟩
        have HC := Lib.hid hc
        clear c0 c1 c2 c3 c4 c5 hc
        rcases Bool.eq_false_or_eq_true (rightB ⟨kind, dom, ra, rb, rd, c⟩ j n) with hr | hr
        · have HR := Lib.hid hr
          clear hr
          go_wp2_with fail
          go_region_held3 (fun w' => w'.cell? ⟨w.heap.size, 0, none⟩ = some (.int .i64 n) ∧ w'.cell? ⟨w.heap.size, 1, none⟩ = some (.slice (some ⟨b, off, none⟩) ops.length oc) ∧ w'.cell? ⟨b, off + j * 6, none⟩ = some (.int .i64 kind) ∧
            w'.cell? ⟨b, off + j * 6 + 1, none⟩ = some (.int .i64 dom) ∧ w'.cell? ⟨b, off + j * 6 + 2, none⟩ = some (.int .i64 ra) ∧ w'.cell? ⟨b, off + j * 6 + 3, none⟩ = some (.int .i64 rb) ∧ w'.cell? ⟨b, off + j * 6 + 4, none⟩ = some (.int .i64 rd) ∧ w'.cell? ⟨b, off + j * 6 + 5, none⟩ = some (.int .u64 c))
            (first | exact HF.out | exact HC.out _ (by first | exact below_drewN' 1 | go_grown))
            (first | (go_at_call 31; refine (rright_any ⟨kind, dom, ra, rb, rd, c⟩ _ _ (by exact HN.out) _).mono ?_; rintro e w2 ⟨he, hb2⟩; rw [HR.out] at he; subst he; have HB2 := Lib.hid (below_undrew hb2); have HF := Lib.hid (HC.out _ (below_undrew hb2)); clear hb2))
          obtain ⟨f0, f1, f2, f3, f4, f5, f6, f7⟩ := HF.out
          clear t0 t1 t2 q0 f3 f4 f5 f6
          by_cases hk : kind = 2
          · subst hk
            by_cases hcw : c = (wd : Int)
            · have hcb : (c != (wd : Int)) = false := by simp [hcw]
              have HCW := Lib.hid hcw
              clear hcw
              go_wp2_with fail
              go_roundw
              case rel => exact ⟨j + 1, wd + 1, by omega, by simp, by simp, hst.next HB2.out _ (by omega) (by rw [opsB_step ho, HR.out]; simp [HCW.out])⟩
              case measure => simp [intOf]; omega
            · have hcb : (c != (wd : Int)) = true := by simp [hcw]
              have HCW := Lib.hid hcw
              clear hcw
              go_wp2_with fail
              go_ret
              exact ⟨by rw [EB.out, hst.res.out, opsB_step ho]; simp [HCW.out], hst.below.trans (HB2.out.mono (Nat.le_of_lt hst.box.lt))⟩
          · have hkb : (kind == 2) = false := by simp [hk]
            have HK := Lib.hid hk
            clear hk
            go_wp2_with fail
            go_roundw
            case rel => exact ⟨j + 1, wd, by omega, by simp, rfl, hst.next HB2.out _ (by omega) (by rw [opsB_step ho, HR.out]; simp [HK.out])⟩
            case measure => simp [intOf]; omega
        · have HR := Lib.hid hr
          clear hr
          go_wp2_with fail
          go_region_held3 (fun w' => w'.cell? ⟨w.heap.size, 0, none⟩ = some (.int .i64 n) ∧ w'.cell? ⟨w.heap.size, 1, none⟩ = some (.slice (some ⟨b, off, none⟩) ops.length oc) ∧ w'.cell? ⟨b, off + j * 6, none⟩ = some (.int .i64 kind) ∧
            w'.cell? ⟨b, off + j * 6 + 1, none⟩ = some (.int .i64 dom) ∧ w'.cell? ⟨b, off + j * 6 + 2, none⟩ = some (.int .i64 ra) ∧ w'.cell? ⟨b, off + j * 6 + 3, none⟩ = some (.int .i64 rb) ∧ w'.cell? ⟨b, off + j * 6 + 4, none⟩ = some (.int .i64 rd) ∧ w'.cell? ⟨b, off + j * 6 + 5, none⟩ = some (.int .u64 c))
            (first | exact HF.out | exact HC.out _ (by first | exact below_drewN' 1 | go_grown))
            (first | (go_at_call 31; refine (rright_any ⟨kind, dom, ra, rb, rd, c⟩ _ _ (by exact HN.out) _).mono ?_; rintro e w2 ⟨he, hb2⟩; rw [HR.out] at he; subst he; have HB2 := Lib.hid (below_undrew hb2); have HF := Lib.hid (HC.out _ (below_undrew hb2)); clear hb2))
          clear t0 t1 t2 q0
          go_wp2_with fail
          go_ret
          exact ⟨by rw [EB.out, hst.res.out, opsB_step ho, HR.out]; simp, hst.below.trans (HB2.out.mono (Nat.le_of_lt hst.box.lt))⟩
      · obtain rfl : j = ops.length := by omega
        have EB2 : Hid (checkB n ops l = orderedB ops.length 0 l) := Lib.hid (by rw [EB.out, hst.res.out]; simp [opsB])
        have hB := Lib.hid hst.below
        have hX := Lib.hid hst.box
        go_wp2_with fail
        clear hst t0 t1 t2
        go_loopw [5, 6] (fun la i wr => ∃ (j : Nat) (last : Int), j ≤ l.length ∧ i = .int .i64 j ∧ la = .int .i64 last ∧ Below w.heap.size w wr ∧ BoxT w.heap.size n oa ops.length oc ba l.length bc wr ∧ Hid (orderedB ops.length 0 l = orderedB ops.length last (l.drop j))) (fun la i _ => l.length - (intOf i).toNat)
        case atStart => exact ⟨0, 0, by omega, rfl, rfl, hB.out, hX.out, Lib.hid rfl⟩
        case round =>
          obtain ⟨j, last, hj, rfl, rfl, hbl, hbx, hres⟩ := hrel
          have t1 := hbx.x1
          have t2 := hbx.x2
          by_cases hlt : j < l.length
          · obtain ⟨s, hs⟩ : ∃ s, l[j]? = some s := ⟨_, List.getElem?_eq_getElem hlt⟩
            obtain ⟨b, off, rfl, hb, c0, c1, c2⟩ := HT.out.atSpans.at hs
            have q0 := (hbl.cell (p := ⟨b, off + j * 3, none⟩) hb).trans c0
            have q1 := (hbl.cell (p := ⟨b, off + j * 3 + 1, none⟩) hb).trans c1
            have q2 := (hbl.cell (p := ⟨b, off + j * 3 + 2, none⟩) hb).trans c2
            have hbn := HT.out.blen
            have hml : l.length ≤ 2 ^ 63 - 1 := hbn
            clear c0 c1 c2 hbn
            obtain ⟨kind, lo, hi⟩ := s
            have q4 := cell_al (.cells #[.int .i64 kind, .int .i64 lo, .int .i64 hi] 71) t1
            rcases span_cases last ⟨kind, lo, hi⟩ ops.length with ⟨hg, h1, h2, h3, h4, h5⟩ | ⟨hg, hbad⟩
            · dsimp only at h1 h2 h3 h4 h5 q0 q1 q2
              go_wp2_with fail
              go_roundw
              case rel => exact ⟨j + 1, hi, by omega, by simp, rfl, hbl.trans ((below_al _ _).mono (Nat.le_of_lt hbx.lt)), hbx.kept (below_al _ _), Lib.hid (by rw [hres.out, ordered_step hs, hg.out]; rfl)⟩
              case measure => simp [intOf]; omega
            · have E : Hid (checkB n ops l = false) := Lib.hid (by rw [EB2.out, hres.out, ordered_step hs, hg.out]; rfl)
              dsimp only at hbad q0 q1 q2
              rcases hbad with h1 | ⟨h1, h2⟩ | ⟨h1, h2, h3⟩ | ⟨h1, h2, h3, h4⟩ | ⟨h1, h2, h3, h4, h5⟩
              all_goals
                go_wp2_with fail
                go_ret
                exact ⟨by rw [E.out]; rfl, hbl.trans ((below_al _ _).mono (Nat.le_of_lt hbx.lt))⟩
          · obtain rfl : j = l.length := by omega
            go_wp2_with fail
            go_ret
            exact ⟨by rw [EB2.out, hres.out]; simp [orderedB], hbl⟩
end Go.Proofs.Ytdlmijcnjjdbbaa
