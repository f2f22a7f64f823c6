/- replay's source: a word is taken off a row; a register's word; the word that comes from outside. Conditions: each lemma's own. -/
import Derived.Test.YtdlmijcnjjdbbaaPv
namespace Go.Proofs.Ytdlmijcnjjdbbaa
open Go Go.RowKit

def NextPost (w0 : World) (sb j : Nat) (x : W64) (l : List W64) (w : World) (e : Ending) (w' : World) : Prop :=
  e = .returned (.int .u64 (U x)) ∧ ∃ a' cap', l.length ≤ cap' ∧ cap' ≤ maxLen ∧ WordsAt w0 a' l ∧ w' = w.setCell ⟨sb, j, none⟩ (.slice a' l.length cap')

theorem next_any (w0 : World) (sb j : Nat) (a : Option Addr) (cap : Nat) (x : W64) (l : List W64) (w : World) (hc : w.cell? ⟨sb, j, none⟩ = some (.slice a (l.length + 1) cap)) (hf : w.frozen? ⟨sb, j, none⟩ = false)
    (hcap : l.length + 1 ≤ cap) (hmax : cap ≤ maxLen) (hw : WordsAt w0 a (x :: l)) (hb0 : Below w0.heap.size w0 w) :
    Calls Try.prog 87 #[.pointer (some ⟨sb, j, none⟩)] w (NextPost w0 sb j x l w) := by
  obtain ⟨b, off, rfl, hb, c0⟩ := hw.at (i := 0) rfl
  simp only [Nat.add_zero] at c0
  have c1 := (hb0.cell (p := ⟨b, off, none⟩) hb).trans c0
  have HW := Lib.hid hw; clear hw hb0 c0
  unfold maxLen at hmax
  by_cases h1 : cap = 1
  · subst h1
    obtain rfl : l = [] := List.eq_nil_of_length_eq_zero (by omega)
    go_enter Try.func87, Try.ntmps87
    go_wp2
    go_ret
    exact ⟨rfl, some ⟨b, off, none⟩, 0, by simp, by unfold maxLen; omega, WordsAt.nil, rfl⟩
  · have h2 : 1 < cap := by omega
    go_enter Try.func87, Try.ntmps87
    go_wp2
    go_ret
    exact ⟨rfl, some ⟨b, off + 1, none⟩, cap - 1, by omega, by unfold maxLen; omega, HW.out.tail, by simp⟩

theorem at_neg (r : Int) (hr : r < 0) (p : Value) (w : World) : Calls Try.prog 84 #[.int .i64 r, p] w fun e w' => e = .returned (.int .u64 0) ∧ w = w' := by
  go_enter Try.func84, Try.ntmps84
  go_wp2
  go_ret
  exact ⟨rfl, rfl⟩
theorem at_pos (r : Int) (h0 : 0 ≤ r) (x : W64) (bx : Nat) (a : Option Addr) (len cap : Nat) (w : World) (hc : w.cell? ⟨bx, 0, none⟩ = some (.slice a len cap)) (hl : r < len) (hm : len ≤ maxLen) (l : List W64) (hw : WordsAt w a l) (hx : l[r.toNat]? = some x) :
    Calls Try.prog 84 #[.int .i64 r, .pointer (some ⟨bx, 0, none⟩)] w fun e w' => e = .returned (.int .u64 (U x)) ∧ w = w' := by
  obtain ⟨b, off, rfl, hb, c0⟩ := hw.at hx
  obtain ⟨k, rfl⟩ := Int.eq_ofNat_of_zero_le h0
  rw [Int.toNat_natCast] at c0
  clear hw hx
  unfold maxLen at hm
  have hl' : k < len := by omega
  go_enter Try.func84, Try.ntmps84
  go_wp2
  go_ret
  exact ⟨rfl, rfl⟩
theorem U_zero : U (0 : W64) = 0 := by unfold U; decide +kernel
/-- A register's word, as the program reads it. -/
theorem at_any (r : Int) (bx : Nat) (a : Option Addr) (cap : Nat) (w : World) (l : List W64) (hc : w.cell? ⟨bx, 0, none⟩ = some (.slice a l.length cap)) (hl : r < l.length) (hm : l.length ≤ maxLen) (hw : WordsAt w a l) :
    Calls Try.prog 84 #[.int .i64 r, .pointer (some ⟨bx, 0, none⟩)] w fun e w' => e = .returned (.int .u64 (U (atV l r))) ∧ w = w' := by
  by_cases h0 : r < 0
  · refine (at_neg r h0 _ w).mono ?_
    rintro e w' ⟨rfl, rfl⟩
    exact ⟨by simp only [atV, h0, if_true]; rw [U_zero], rfl⟩
  · have hx : l[r.toNat]? = some (l.getD r.toNat 0) := by
      rw [List.getElem?_eq_getElem (by omega), List.getD, List.getElem?_eq_getElem (by omega)]; rfl
    refine (at_pos r (by omega) _ bx a l.length cap w hc hl hm l hw hx).mono ?_
    rintro e w' ⟨rfl, rfl⟩
    exact ⟨by simp [atV, h0], rfl⟩

/-- The source: keys, masks and what was opened are rows that lie in an elder world. -/
structure SrcAt (w0 w : World) (sb : Nat) (keys masks opened : List W64) (bl : Bool) : Prop where
  below : Below w0.heap.size w0 w
  lo : w0.heap.size ≤ sb
  hi : sb < w.heap.size
  ck : ∃ a cap, w.cell? ⟨sb, 0, none⟩ = some (.slice a keys.length cap) ∧ keys.length ≤ maxLen ∧ WordsAt w0 a keys
  cm : ∃ a cap, w.cell? ⟨sb, 1, none⟩ = some (.slice a masks.length cap) ∧ masks.length ≤ cap ∧ cap ≤ maxLen ∧ WordsAt w0 a masks
  co : ∃ a cap, w.cell? ⟨sb, 2, none⟩ = some (.slice a opened.length cap) ∧ opened.length ≤ cap ∧ cap ≤ maxLen ∧ WordsAt w0 a opened
  cb : w.cell? ⟨sb, 3, none⟩ = some (.bool bl)
  f1 : w.frozen? ⟨sb, 1, none⟩ = false
  f2 : w.frozen? ⟨sb, 2, none⟩ = false
theorem SrcAt.kept {w0 w w' : World} {sb : Nat} {keys masks opened : List W64} {bl : Bool} (h : SrcAt w0 w sb keys masks opened bl) {D : Nat → Prop} (ht : Touch D w w') (hd : ∀ k, D k → w0.heap.size ≤ k) (hs : ¬ D sb) : SrcAt w0 w' sb keys masks opened bl :=
  ⟨h.below.trans (ht.below hd h.below.size), h.lo, Nat.lt_of_lt_of_le h.hi ht.size,
   let ⟨a, c, h1, h2⟩ := h.ck; ⟨a, c, (ht.cell (p := ⟨sb, 0, none⟩) h.hi hs).trans h1, h2⟩, let ⟨a, c, h1, h2⟩ := h.cm; ⟨a, c, (ht.cell (p := ⟨sb, 1, none⟩) h.hi hs).trans h1, h2⟩,
   let ⟨a, c, h1, h2⟩ := h.co; ⟨a, c, (ht.cell (p := ⟨sb, 2, none⟩) h.hi hs).trans h1, h2⟩, (ht.cell (p := ⟨sb, 3, none⟩) h.hi hs).trans h.cb, (ht.frozen (p := ⟨sb, 1, none⟩) h.hi hs).trans h.f1, (ht.frozen (p := ⟨sb, 2, none⟩) h.hi hs).trans h.f2⟩
theorem SrcAt.setM {w0 w : World} {sb : Nat} {keys masks opened : List W64} {bl : Bool} (h : SrcAt w0 w sb keys masks opened bl) {a : Option Addr} {cap : Nat} {l : List W64} (hl : l.length ≤ cap) (hc : cap ≤ maxLen) (hw : WordsAt w0 a l) :
    SrcAt w0 (w.setCell ⟨sb, 1, none⟩ (.slice a l.length cap)) sb keys l opened bl := by
  obtain ⟨a1, c1, m1, _⟩ := h.cm
  refine ⟨h.below.setCell h.lo _, h.lo, by simpa [World.setCell] using h.hi, ?_, ⟨a, cap, World.cell?_setCell_same' _ _ _ (by rw [m1]; rfl), hl, hc, hw⟩, ?_, ?_, by rw [World.frozen?_setCell]; exact h.f1, by rw [World.frozen?_setCell]; exact h.f2⟩
  · obtain ⟨a, c, h1, h2⟩ := h.ck
    exact ⟨a, c, (World.cell?_setCell_other _ _ _ _ (by simp)).trans h1, h2⟩
  · obtain ⟨a, c, h1, h2⟩ := h.co
    exact ⟨a, c, (World.cell?_setCell_other _ _ _ _ (by simp)).trans h1, h2⟩
  · exact (World.cell?_setCell_other _ _ _ _ (by simp)).trans h.cb
theorem SrcAt.setO {w0 w : World} {sb : Nat} {keys masks opened : List W64} {bl : Bool} (h : SrcAt w0 w sb keys masks opened bl) {a : Option Addr} {cap : Nat} {l : List W64} (hl : l.length ≤ cap) (hc : cap ≤ maxLen) (hw : WordsAt w0 a l) :
    SrcAt w0 (w.setCell ⟨sb, 2, none⟩ (.slice a l.length cap)) sb keys masks l bl := by
  obtain ⟨a1, c1, m1, _⟩ := h.co
  refine ⟨h.below.setCell h.lo _, h.lo, by simpa [World.setCell] using h.hi, ?_, ?_, ⟨a, cap, World.cell?_setCell_same' _ _ _ (by rw [m1]; rfl), hl, hc, hw⟩, ?_, by rw [World.frozen?_setCell]; exact h.f1, by rw [World.frozen?_setCell]; exact h.f2⟩
  · obtain ⟨a, c, h1, h2⟩ := h.ck
    exact ⟨a, c, (World.cell?_setCell_other _ _ _ _ (by simp)).trans h1, h2⟩
  · obtain ⟨a, c, h1, h2⟩ := h.cm
    exact ⟨a, c, (World.cell?_setCell_other _ _ _ _ (by simp)).trans h1, h2⟩
  · exact (World.cell?_setCell_other _ _ _ _ (by simp)).trans h.cb

def OutPost (w0 : World) (sb : Nat) (keys masks opened : List W64) (bl : Bool) (k : Int) (c : W64) (w : World) (e : Ending) (w' : World) : Prop :=
  e = .returned (.int .u64 (U (outV bl keys masks 0 k c))) ∧ SrcAt w0 w' sb keys (if k = 1 then masks.tail else masks) opened bl ∧ Touch (fun k => k = sb) w w'

theorem touch_drew (D : Nat → Prop) (W : World) (n : Nat) : Touch D W (W.drewN n) := ⟨rfl, rfl, rfl, Nat.le_refl _, fun _ _ _ => rfl⟩

theorem outside_any (o : OpV) (c : W64) (hc : o.c = U c) (w0 : World) (sb : Nat) (keys masks opened : List W64) (bl : Bool) (w : World) (hs : SrcAt w0 w sb keys masks opened bl)
    (h1 : o.kind = 1 → masks ≠ []) (h2 : o.kind = 2 → bl = false → c.toNat < keys.length) :
    Calls Try.prog 86 #[.pointer (some ⟨sb, 0, none⟩), .agg #[.int .i64 o.kind, .int .i64 o.dom, .int .i64 o.a, .int .i64 o.b, .int .i64 o.d, .int .u64 o.c]] w (OutPost w0 sb keys masks opened bl o.kind c w) := by
  obtain ⟨k, dom, ra, rb, rd, oc⟩ := o
  dsimp only at hc h1 h2 ⊢
  subst hc
  obtain ⟨ka, kcap, k0, klen, kw⟩ := hs.ck
  obtain ⟨ma, mcap, m0, m1, m2, mw⟩ := hs.cm
  have b0 := hs.cb
  have HS := Lib.hid hs
  by_cases hk1 : k = 1
  · subst hk1
    obtain ⟨x, l, rfl⟩ : ∃ x l, masks = x :: l := by
      cases masks with
      | nil => exact absurd rfl (h1 rfl)
      | cons x l => exact ⟨x, l, rfl⟩
    have f1 := hs.f1
    have HM := Lib.hid mw
    have hsb := hs.hi
    clear h1 h2 hs kw mw
    have HB := Lib.hid (below_al w (.cells #[.int .i64 1, .int .i64 dom, .int .i64 ra, .int .i64 rb, .int .i64 rd, .int .u64 (U c)] 60))
    go_enter Try.func86, Try.ntmps86
    go_wp2_with fail
    refine (next_any w0 sb 1 ma mcap x l _ ((HB.out.cell (p := ⟨sb, 1, none⟩) hsb).trans m0) ((HB.out.frozen (p := ⟨sb, 1, none⟩) hsb).trans f1) m1 m2 HM.out (HS.out.below.trans (HB.out.mono HS.out.below.size))).mono ?_
    rintro e w' ⟨rfl, a', cap', h3, h4, h5, rfl⟩
    have H5 := Lib.hid h5; clear h5
    go_wp2_with fail
    go_ret
    exact ⟨by simp [outV], by simpa using (HS.out.setM h3 h4 H5.out).kept (Touch.alloc (fun _ => False) _ _) (fun _ h => h.elim) id, (Touch.setCell (fun k => k = sb) w _ _ rfl).trans (Touch.alloc _ _ _)⟩
  · have hkb1 : (k == 1) = false := by simpa using hk1
    have HK1 := Lib.hid hk1
    have hk' := Lib.hid (hs.kept (Touch.alloc (fun _ => False) w (.cells #[.int .i64 k, .int .i64 dom, .int .i64 ra, .int .i64 rb, .int .i64 rd, .int .u64 (U c)] 60)) (fun _ h => h.elim) id)
    have hsb := hs.hi
    by_cases hk2 : k = 2
    · subst hk2
      cases bl
      · have hcl := h2 rfl rfl
        obtain ⟨x, hx⟩ : ∃ x, keys[c.toNat]? = some x := ⟨_, List.getElem?_eq_getElem hcl⟩
        obtain ⟨b, off, rfl, hb, c0⟩ := kw.at hx
        have c1 := (hs.below.cell (p := ⟨b, off + c.toNat, none⟩) hb).trans c0
        have hcn : (U c).toNat = c.toNat := by unfold U; simp
        rw [← hcn] at c1 hcl
        have hx' : keys.getD c.toNat 0 = x := by rw [List.getD, hx]; rfl
        have HX := Lib.hid hx'
        have hbw : b < w.heap.size := Nat.lt_of_lt_of_le hb hs.below.size
        have hu0 := U_nonneg c
        have hul : U c < keys.length := by omega
        unfold maxLen at klen
        clear h1 h2 hs kw mw hx hx' hcn m0 m1 hk1 c0 hkb1
        go_enter Try.func86, Try.ntmps86
        go_wp2_with fail
        go_quiet (fail)
        go_wp2_with fail
        go_ret
        exact ⟨by rw [show outV false keys masks 0 2 c = x by simp only [outV, HX.out]; rfl]; rfl, hk'.out.kept (touch_drew (fun _ => False) _ _) (fun _ h => h.elim) id, (Touch.alloc _ _ _).trans (touch_drew _ _ _)⟩
      · clear h1 h2 hs kw mw m0 m1 k0 klen hk1
        go_enter Try.func86, Try.ntmps86
        go_wp2_with fail
        go_ret
        exact ⟨by rw [show outV true keys masks 0 2 c = 0 by simp [outV], U_zero]; rfl, hk'.out, Touch.alloc _ _ _⟩
    · have hkb2 : (k == 2) = false := by simpa using hk2
      have HK2 := Lib.hid hk2
      clear h1 h2 hs kw mw m0 m1 k0 klen hk1 hk2
      go_enter Try.func86, Try.ntmps86
      go_wp2_with fail
      go_ret
      exact ⟨by rw [show outV bl keys masks 0 k c = 0 by simp [outV, HK1.out, HK2.out], U_zero]; rfl, by rw [if_neg HK1.out]; exact hk'.out, Touch.alloc _ _ _⟩
end Go.Proofs.Ytdlmijcnjjdbbaa
