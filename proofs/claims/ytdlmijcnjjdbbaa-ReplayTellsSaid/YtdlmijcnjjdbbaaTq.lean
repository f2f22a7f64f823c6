/- Words of places; rows that are alike; replay.Taps. Conditions: each lemma's own. -/
import Derived.Test.YtdlmijcnjjdbbaaTi
import Derived.Test.YtdlmijcnjjdbbaaPx
namespace Go.Proofs.Ytdlmijcnjjdbbaa
open Go Go.RowKit

theorem atV_big {v : List W64} {r : Int} (h : (v.length : Int) ≤ r) : atV v r = 0 := by
  unfold atV
  split
  · rfl
  · rw [List.getD, List.getElem?_eq_none (by omega)]; rfl
theorem atV_in {v : List W64} {r : Int} (h0 : 0 ≤ r) {x : W64} (h : v[r.toNat]? = some x) : atV v r = x := by
  unfold atV
  rw [if_neg (by omega), List.getD, h]; rfl

theorem word_any (v : List W64) (r : Int) (a : Option Addr) (cap : Nat) (w : World) (hm : v.length ≤ maxLen) (hw : WordsAt w a v) :
    Calls Try.prog 15 #[.slice a v.length cap, .int .i64 r] w fun e w' => e = .returned (.int .u64 (U (atV v r))) ∧ w = w' := by
  unfold maxLen at hm
  by_cases h0 : r < 0
  · have E : Hid (atV v r = 0) := Lib.hid (by simp only [atV, h0, if_true])
    clear hw
    go_enter Try.func15, Try.ntmps15
    go_wp2
    go_ret
    exact ⟨by rw [E.out, U_zero]; rfl, rfl⟩
  · by_cases h1 : (v.length : Int) ≤ r
    · have E : Hid (atV v r = 0) := Lib.hid (atV_big h1)
      clear hw
      go_enter Try.func15, Try.ntmps15
      go_wp2
      go_ret
      exact ⟨by rw [E.out, U_zero]; rfl, rfl⟩
    · obtain ⟨k, rfl⟩ := Int.eq_ofNat_of_zero_le (show 0 ≤ r by omega)
      have hx : v[k]? = some v[k] := List.getElem?_eq_getElem (by omega)
      obtain ⟨b, off, rfl, hb, c0⟩ := hw.at hx
      have E : Hid (atV v k = v[k]) := Lib.hid (atV_in (by omega) (by simp))
      have hl : k < v.length := by omega
      clear hw hx
      generalize v[k] = x at *
      go_enter Try.func15, Try.ntmps15
      go_wp2
      go_ret
      exact ⟨by rw [E.out]; rfl, rfl⟩

theorem take_eq_succ {α : Type} {l m : List α} {j : Nat} {x y : α} (h : l.take j = m.take j) (hx : l[j]? = some x) (hy : m[j]? = some y) (e : x = y) : l.take (j + 1) = m.take (j + 1) := by
  obtain ⟨h1, rfl⟩ := List.getElem?_eq_some_iff.1 hx
  obtain ⟨h2, rfl⟩ := List.getElem?_eq_some_iff.1 hy
  rw [List.take_succ_eq_append_getElem h1, List.take_succ_eq_append_getElem h2, h, e]
theorem ne_of_at {α : Type} {l m : List α} {j : Nat} {x y : α} (hx : l[j]? = some x) (hy : m[j]? = some y) (h : x ≠ y) : l ≠ m := by
  intro e; subst e; rw [hx] at hy; exact h (Option.some.inj hy)

def TrueD (p : Prop) [Decidable p] (w : World) (e : Ending) (w' : World) : Prop := e = .returned (.bool (decide p)) ∧ Below w.heap.size w w'
set_option maxRecDepth 100000 in
theorem same_any (l m : List W64) (a a' : Option Addr) (c c' : Nat) (w : World) (hl : l.length ≤ maxLen) (hm : m.length ≤ maxLen) (h1 : WordsAt w a l) (h2 : WordsAt w a' m) :
    Calls Try.prog 10 #[.slice a l.length c, .slice a' m.length c'] w (TrueD (l = m) w) := by
  unfold maxLen at hl hm
  by_cases hn : l.length = m.length
  · have H1 := Lib.hid h1; have H2 := Lib.hid h2; have HN := Lib.hid hn
    have hlm : l.length ≤ m.length := by omega
    have hb0 : (((l.length : Nat) : Int) != ((m.length : Nat) : Int)) = false := by simp [hn]
    clear h1 h2 hn
    go_enter Try.func10, Try.ntmps10
    go_wp2_with fail
    go_loopw [5] (fun i wr => ∃ j : Nat, j ≤ l.length ∧ i = .int .i64 j ∧ Hid (l.take j = m.take j) ∧ Below w.heap.size w wr) (fun i _ => l.length - (intOf i).toNat)
    case atStart => exact ⟨0, by omega, rfl, Lib.hid rfl, Below.refl _ _⟩
    case round =>
      obtain ⟨j, hj, rfl, he, hB⟩ := hrel
      by_cases hlt : j < l.length
      · have hx : l[j]? = some l[j] := List.getElem?_eq_getElem hlt
        have hlt2 : j < m.length := by omega
        have hy : m[j]? = some m[j] := List.getElem?_eq_getElem hlt2
        generalize l[j] = x at *
        generalize m[j] = y at *
        obtain ⟨b, off, rfl, hb, c0⟩ := H1.out.at hx
        obtain ⟨b', off', rfl, hb', c0'⟩ := H2.out.at hy
        have q0 := (hB.cell (p := ⟨b, off + j, none⟩) hb).trans c0
        have q1 := (hB.cell (p := ⟨b', off' + j, none⟩) hb').trans c0'
        have g0 := Nat.lt_of_lt_of_le hb hB.size
        have g1 := Nat.lt_of_lt_of_le hb' hB.size
        have HX := Lib.hid hx; have HY := Lib.hid hy
        clear c0 c0' hx hy
        by_cases hxy : x = y
        · have ht : (U x != U y) = false := by simp [hxy]
          have HXY := Lib.hid hxy
          clear hxy
          go_wp2_with fail
          go_quiet (fail)
          go_wp2_with fail
          go_roundw
          case rel => exact ⟨j + 1, by omega, by simp, Lib.hid (take_eq_succ he.out HX.out HY.out HXY.out), hB.trans (below_drewN' _ |>.mono hB.size)⟩
          case measure => simp [intOf]; omega
        · have ht : (U x != U y) = true := by simp; exact fun h => hxy (U_inj h)
          have HXY := Lib.hid hxy
          clear hxy
          go_wp2_with fail
          go_quiet (fail)
          go_wp2_with fail
          go_ret
          exact ⟨by rw [decide_eq_false (ne_of_at HX.out HY.out HXY.out)]; rfl, hB.trans (below_drewN' _ |>.mono hB.size)⟩
      · obtain rfl : j = l.length := by omega
        go_wp2_with fail
        go_ret
        have e : l = m := by have := he.out; rw [List.take_length, HN.out, List.take_length] at this; exact this
        exact ⟨by rw [decide_eq_true e]; rfl, hB⟩
  · have E : Hid (decide (l = m) = false) := Lib.hid (decide_eq_false (fun e => hn (by rw [e])))
    have hb0 : (((l.length : Nat) : Int) != ((m.length : Nat) : Int)) = true := by simp; omega
    clear h1 h2 hn
    go_enter Try.func10, Try.ntmps10
    go_wp2_with fail
    go_ret
    exact ⟨by rw [E.out]; rfl, Below.refl _ _⟩

structure TapSt (w : World) (v : List W64) (ts : List Int) (j : Nat) (r : Value) (wr : World) : Prop where
  below : Below w.heap.size w wr
  own : wr.ownsRow w.heap.size 40 1 r j ((ts.take j).map fun t => .int .u64 (U (atV v t)))
def TapPost (v : List W64) (ts : List Int) (w : World) (e : Ending) (w' : World) : Prop := ∃ r, e = .returned r ∧ w'.ownsRow w.heap.size 40 1 r ts.length ((ts.map (atV v)).map fun x => .int .u64 (U x)) ∧ Below w.heap.size w w'
theorem TapSt.push {w : World} {v : List W64} {ts : List Int} {j : Nat} {r r' : Value} {wr wr1 wr' : World} {t : Int} {x : W64} (h : TapSt w v ts j r wr) (ht : ts[j]? = some t) (hx : atV v t = x) (hg0 : wr.grownBy wr1 none) (hg : wr1.grownBy wr' r.ownBlock)
    (hown : wr'.ownsRow w.heap.size 40 1 r' (j + 1) ((ts.take j).map (fun t => Value.int .u64 (U (atV v t))) ++ [.int .u64 (U x)])) : TapSt w v ts (j + 1) r' wr' := by
  have hlt := World.ownsRow.lt h.own
  refine ⟨(h.below.grown hg0 h.below.size (fun k e => by cases e)).grown hg (Nat.le_trans h.below.size hg0.size) (fun k e => (hlt k e).1), ?_⟩
  obtain ⟨hj, rfl⟩ := List.getElem?_eq_some_iff.1 ht
  rw [List.take_succ_eq_append_getElem hj, List.map_append]
  simp only [List.map_cons, List.map_nil, hx]
  exact hown

set_option maxRecDepth 100000 in
set_option maxHeartbeats 1000000 in
theorem taps_any (v : List W64) (ts : List Int) (a a' : Option Addr) (c c' : Nat) (w : World) (hv : v.length ≤ maxLen) (hts : ts.length * 8 ≤ 140737488351232) (h1 : WordsAt w a v) (h2 : IntsAt w a' ts) :
    Calls Try.prog 12 #[.slice a v.length c, .slice a' ts.length c'] w (TapPost v ts w) := by
  unfold maxLen at hv
  have H1 := Lib.hid h1; have H2 := Lib.hid h2
  clear h1 h2
  obtain ⟨i0, hi, hz0, hz1, hz2⟩ := info_parts infoU64
  have HI := Lib.hid hi; have HZ0 := Lib.hid hz0; have HZ1 := Lib.hid hz1; have HZ2 := Lib.hid hz2
  clear hi hz0 hz1 hz2
  go_enter Try.func12, Try.ntmps12
  go_wp2_with fail
  go_loopw [5, 11] (fun r i wr => ∃ j : Nat, j ≤ ts.length ∧ i = .int .i64 j ∧ TapSt w v ts j r wr) (fun _ i _ => ts.length - (intOf i).toNat)
  case atStart => exact ⟨0, by omega, rfl, ⟨Below.refl _ _, by simpa using World.ownsRow_nil _ _ _ _⟩⟩
  case round =>
    obtain ⟨j, hj, rfl, hst⟩ := hrel
    by_cases hlt : j < ts.length
    · obtain ⟨t, ht⟩ : ∃ t, ts[j]? = some t := ⟨_, List.getElem?_eq_getElem hlt⟩
      obtain ⟨b, off, rfl, hb, c0⟩ := H2.out.at ht
      have q0 := (hst.below.cell (p := ⟨b, off + j, none⟩) hb).trans c0
      clear c0
      obtain ⟨va, vc, rfl⟩ := ownsRow_slice hst.own
      have HT := Lib.hid ht; clear ht
      have hbl := hst.below
      have HST := Lib.hid hst; clear hst
      have hml : j + 1 ≤ maxLen := by unfold maxLen; omega
      have HML := Lib.hid hml; clear hml
      have hbs := hbl.size
      have hmb : (j + 1) * 8 ≤ 140737488355328 := by omega
      have HMB := Lib.hid hmb; clear hmb
      by_cases h0 : 0 ≤ t
      · by_cases h1 : t < v.length
        · obtain ⟨k, rfl⟩ := Int.eq_ofNat_of_zero_le h0
          have hx : v[k]? = some v[k] := List.getElem?_eq_getElem (by omega)
          obtain ⟨b', off', rfl, hb', c0⟩ := H1.out.at hx
          have q1 := (hbl.cell (p := ⟨b', off' + k, none⟩) hb').trans c0
          have E : Hid (atV v k = v[k]) := Lib.hid (atV_in (by omega) (by simp))
          have hl : k < v.length := by omega
          clear c0 hx
          generalize v[k] = x at *
          clear hbl
          go_wp2_with (at_builtin; refine wpList_append_own _ rfl (.tmp 27) (.tmp 29) 26 rfl w.heap.size 40 i0 (.int .u64 0) 1 8 underU64s HI.out HZ0.out HZ1.out HZ2.out rfl (by decide) _ _ _ rfl (HST.out.own.alloc _) ⟨wr.heap.size, 0, none⟩ 1 1 [.int .u64 (U x)] rfl rfl (cell_one_new _ _ _) (by intro u hu; simp at hu; subst hu; rfl) HML.out HMB.out (by simp; omega) ?_; intro v' w1 hown' hgrow _; obtain ⟨va', vc', rfl⟩ := ownsRow_slice hown'; have HO1 := Lib.hid hown'; have HG1 := Lib.hid hgrow; clear hown' hgrow)
          go_roundw
          case rel => exact ⟨j + 1, by omega, by simp, HST.out.push HT.out E.out (World.grownBy_alloc _ _ none) HG1.out HO1.out⟩
          case measure => simp [intOf]; omega
        · have E : Hid (atV v t = 0) := Lib.hid (atV_big (by omega))
          clear hbl
          go_wp2_with (at_builtin; refine wpList_append_own _ rfl (.tmp 27) (.tmp 29) 26 rfl w.heap.size 40 i0 (.int .u64 0) 1 8 underU64s HI.out HZ0.out HZ1.out HZ2.out rfl (by decide) _ _ _ rfl (HST.out.own.alloc _) ⟨wr.heap.size, 0, none⟩ 1 1 [.int .u64 0] rfl rfl (cell_one_new _ _ _) (by intro u hu; simp at hu; subst hu; rfl) HML.out HMB.out (by simp; omega) ?_; intro v' w1 hown' hgrow _; obtain ⟨va', vc', rfl⟩ := ownsRow_slice hown'; have HO1 := Lib.hid hown'; have HG1 := Lib.hid hgrow; clear hown' hgrow)
          go_roundw
          case rel => exact ⟨j + 1, by omega, by simp, HST.out.push HT.out E.out (World.grownBy_alloc _ _ none) HG1.out (by rw [U_zero]; exact HO1.out)⟩
          case measure => simp [intOf]; omega
      · have E : Hid (atV v t = 0) := Lib.hid (by simp only [atV]; rw [if_pos (by omega)])
        have h0' : t < 0 := by omega
        clear hbl h0
        go_wp2_with (at_builtin; refine wpList_append_own _ rfl (.tmp 27) (.tmp 29) 26 rfl w.heap.size 40 i0 (.int .u64 0) 1 8 underU64s HI.out HZ0.out HZ1.out HZ2.out rfl (by decide) _ _ _ rfl (HST.out.own.alloc _) ⟨wr.heap.size, 0, none⟩ 1 1 [.int .u64 0] rfl rfl (cell_one_new _ _ _) (by intro u hu; simp at hu; subst hu; rfl) HML.out HMB.out (by simp; omega) ?_; intro v' w1 hown' hgrow _; obtain ⟨va', vc', rfl⟩ := ownsRow_slice hown'; have HO1 := Lib.hid hown'; have HG1 := Lib.hid hgrow; clear hown' hgrow)
        go_roundw
        case rel => exact ⟨j + 1, by omega, by simp, HST.out.push HT.out E.out (World.grownBy_alloc _ _ none) HG1.out (by rw [U_zero]; exact HO1.out)⟩
        case measure => simp [intOf]; omega
    · obtain rfl : j = ts.length := by omega
      have hw := hst.own
      rw [List.take_length] at hw
      have HW := Lib.hid hw; clear hw
      go_wp2_with fail
      go_ret
      exact ⟨_, rfl, by rw [List.map_map]; exact HW.out, hst.below⟩
end Go.Proofs.Ytdlmijcnjjdbbaa
