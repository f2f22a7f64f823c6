/- Contracts of the document's places. -/
import Derived.Test.YtiemcbeeehbhjaaA
namespace Go.Proofs.Ytiemcbeeehbhjaa
open Go.RowKit Go.Maps

/-! the document's places -/
def rcells (K S : Nat → Int) : Array Value := #[.int .i64 (K 0), .int .i64 (S 0), .int .i64 (K 1), .int .i64 (S 1), .int .i64 (K 2), .int .i64 (S 2), .int .i64 (K 3), .int .i64 (S 3)]
def RefAt (w : World) (mb : Nat) (K S : Nat → Int) : Prop := w.heap[mb]? = some (.cells (rcells K S) 41 (0, 0))
theorem RefAt.cell {w : World} {mb : Nat} {K S : Nat → Int} (h : RefAt w mb K S) (j : Nat) : w.cell? ⟨mb, j, none⟩ = (rcells K S)[j]? := by
  unfold World.cell?; rw [show w.heap[mb]? = _ from h]; rfl
theorem RefAt.frozen {w : World} {mb : Nat} {K S : Nat → Int} (h : RefAt w mb K S) (j : Nat) : w.frozen? ⟨mb, j, none⟩ = false := by
  unfold World.frozen?; rw [show w.heap[mb]? = _ from h]; simp
theorem RefAt.lt {w : World} {mb : Nat} {K S : Nat → Int} (h : RefAt w mb K S) : mb < w.heap.size := (Array.getElem?_eq_some_iff.1 h).1
theorem RefAt.kept {w w' : World} {mb : Nat} {K S : Nat → Int} {r : Option Nat} (h : RefAt w mb K S) (hg : w.grownBy w' r) (hne : some mb ≠ r) : RefAt w' mb K S := (hg.block mb h.lt hne).trans h
def upd (K : Nat → Int) (i : Int) (k : Int) (j : Nat) : Int := if (j : Int) = i then k else K j
theorem heap_set {w : World} {b j : Nat} {cs : Array Value} {t : TypeId} {fr : Nat × Nat} {v : Value} (h : w.heap[b]? = some (.cells cs t fr)) : (w.setCell ⟨b, j, none⟩ v).heap[b]? = some (.cells (cs.setIfInBounds j v) t fr) := by
  obtain ⟨hlt, hk⟩ := Array.getElem?_eq_some_iff.1 h
  show (w.heap.modify b _)[b]? = _
  rw [Array.getElem?_eq_getElem (by rw [Array.size_modify]; exact hlt), Array.getElem_modify_self, hk]
  rfl
theorem grownBy_set1 (W : World) (b j : Nat) (v : Value) : W.grownBy (W.setCell ⟨b, j, none⟩ v) (some b) :=
  ⟨rfl, rfl, rfl, (KeepsWalks.setCell W _ v).size, fun k _ hk => Below.heap_setCell _ _ _ k (fun e => hk (by rw [e]))⟩
def rputE (K : Nat → Int) (i k : Int) : Int := if (decide (0 ≤ i ∧ i < 4) && K i.toNat == 0) && (k == 1 || k == 2) then 0 else 6

def RPut (w : World) (mb : Nat) (K S : Nat → Int) (i k s : Int) (e : Ending) (w' : World) : Prop :=
  e = .returned (.int .i64 (rputE K i k)) ∧ RefAt w' mb (if rputE K i k = 0 then upd K i k else K) (if rputE K i k = 0 then upd S i s else S) ∧ w.grownBy w' (some mb)
theorem rput_any {mb : Nat} (K S : Nat → Int) (i k s : Int) (w : World) (h : RefAt w mb K S) :
    Calls Try.prog 11 #[.pointer (some ⟨mb, 0, none⟩), .int .i64 i, .int .i64 k, .int .i64 s] w (RPut w mb K S i k s) := by
  have c0 := h.cell 0; have c1 := h.cell 1; have c2 := h.cell 2; have c3 := h.cell 3; have c4 := h.cell 4; have c5 := h.cell 5; have c6 := h.cell 6; have c7 := h.cell 7
  have f0 := h.frozen 0; have f1 := h.frozen 1; have f2 := h.frozen 2; have f3 := h.frozen 3; have f4 := h.frozen 4; have f5 := h.frozen 5; have f6 := h.frozen 6; have f7 := h.frozen 7
  simp only [rcells, List.getElem?_toArray, List.getElem?_cons_zero, List.getElem?_cons_succ] at c0 c1 c2 c3 c4 c5 c6 c7
  by_cases hi : 0 ≤ i ∧ i < 4
  · have hc : i = 0 ∨ i = 1 ∨ i = 2 ∨ i = 3 := by omega
    have hk : k = 1 ∨ k = 2 ∨ ((k != 1) = true ∧ (k != 2) = true ∧ ∀ j, rputE K j k = 6) := by
      by_cases h1 : k = 1
      · exact .inl h1
      · by_cases h2 : k = 2
        · exact .inr (.inl h2)
        · exact .inr (.inr ⟨by simp [h1], by simp [h2], fun j => by simp [rputE, h1, h2]⟩)
    clear hi
    rcases hc with rfl | rfl | rfl | rfl
    · by_cases h0 : K 0 = 0
      · have b0 : (K 0 != 0) = false := by simp [h0]
        rcases hk with rfl | rfl | ⟨h1, h2, e⟩
        · have e : rputE K 0 1 = 0 := by simp [rputE, h0]
          have E := Lib.hid e; clear e h0
          go_enter Try.func11, Try.ntmps11
          go_wp2
          go_returns
          unfold RPut; rw [E.out]
          exact ⟨rfl, by simp only [if_true]; exact (heap_set (heap_set h)).trans (by simp [rcells, upd]), (grownBy_set1 _ _ _ _).trans (grownBy_set1 _ _ _ _)⟩
        · have e : rputE K 0 2 = 0 := by simp [rputE, h0]
          have E := Lib.hid e; clear e h0
          go_enter Try.func11, Try.ntmps11
          go_wp2
          go_returns
          unfold RPut; rw [E.out]
          exact ⟨rfl, by simp only [if_true]; exact (heap_set (heap_set h)).trans (by simp [rcells, upd]), (grownBy_set1 _ _ _ _).trans (grownBy_set1 _ _ _ _)⟩
        · have E := Lib.hid (e 0); clear e h0
          go_enter Try.func11, Try.ntmps11
          go_wp2
          go_returns
          unfold RPut; rw [E.out]
          exact ⟨rfl, h, World.grownBy.refl _ _⟩
      · have b0 : (K 0 != 0) = true := by simp [h0]
        have E := Lib.hid (show rputE K 0 k = 6 by simp [rputE, h0]); clear h0 hk
        go_enter Try.func11, Try.ntmps11
        go_wp2
        go_returns
        unfold RPut; rw [E.out]
        exact ⟨rfl, h, World.grownBy.refl _ _⟩
    · by_cases h0 : K 1 = 0
      · have b0 : (K 1 != 0) = false := by simp [h0]
        rcases hk with rfl | rfl | ⟨h1, h2, e⟩
        · have e : rputE K 1 1 = 0 := by simp [rputE, h0]
          have E := Lib.hid e; clear e h0
          go_enter Try.func11, Try.ntmps11
          go_wp2
          go_returns
          unfold RPut; rw [E.out]
          exact ⟨rfl, by simp only [if_true]; exact (heap_set (heap_set h)).trans (by simp [rcells, upd]), (grownBy_set1 _ _ _ _).trans (grownBy_set1 _ _ _ _)⟩
        · have e : rputE K 1 2 = 0 := by simp [rputE, h0]
          have E := Lib.hid e; clear e h0
          go_enter Try.func11, Try.ntmps11
          go_wp2
          go_returns
          unfold RPut; rw [E.out]
          exact ⟨rfl, by simp only [if_true]; exact (heap_set (heap_set h)).trans (by simp [rcells, upd]), (grownBy_set1 _ _ _ _).trans (grownBy_set1 _ _ _ _)⟩
        · have E := Lib.hid (e 1); clear e h0
          go_enter Try.func11, Try.ntmps11
          go_wp2
          go_returns
          unfold RPut; rw [E.out]
          exact ⟨rfl, h, World.grownBy.refl _ _⟩
      · have b0 : (K 1 != 0) = true := by simp [h0]
        have E := Lib.hid (show rputE K 1 k = 6 by simp [rputE, h0]); clear h0 hk
        go_enter Try.func11, Try.ntmps11
        go_wp2
        go_returns
        unfold RPut; rw [E.out]
        exact ⟨rfl, h, World.grownBy.refl _ _⟩
    · by_cases h0 : K 2 = 0
      · have b0 : (K 2 != 0) = false := by simp [h0]
        rcases hk with rfl | rfl | ⟨h1, h2, e⟩
        · have e : rputE K 2 1 = 0 := by simp [rputE, h0]
          have E := Lib.hid e; clear e h0
          go_enter Try.func11, Try.ntmps11
          go_wp2
          go_returns
          unfold RPut; rw [E.out]
          exact ⟨rfl, by simp only [if_true]; exact (heap_set (heap_set h)).trans (by simp [rcells, upd]), (grownBy_set1 _ _ _ _).trans (grownBy_set1 _ _ _ _)⟩
        · have e : rputE K 2 2 = 0 := by simp [rputE, h0]
          have E := Lib.hid e; clear e h0
          go_enter Try.func11, Try.ntmps11
          go_wp2
          go_returns
          unfold RPut; rw [E.out]
          exact ⟨rfl, by simp only [if_true]; exact (heap_set (heap_set h)).trans (by simp [rcells, upd]), (grownBy_set1 _ _ _ _).trans (grownBy_set1 _ _ _ _)⟩
        · have E := Lib.hid (e 2); clear e h0
          go_enter Try.func11, Try.ntmps11
          go_wp2
          go_returns
          unfold RPut; rw [E.out]
          exact ⟨rfl, h, World.grownBy.refl _ _⟩
      · have b0 : (K 2 != 0) = true := by simp [h0]
        have E := Lib.hid (show rputE K 2 k = 6 by simp [rputE, h0]); clear h0 hk
        go_enter Try.func11, Try.ntmps11
        go_wp2
        go_returns
        unfold RPut; rw [E.out]
        exact ⟨rfl, h, World.grownBy.refl _ _⟩
    · by_cases h0 : K 3 = 0
      · have b0 : (K 3 != 0) = false := by simp [h0]
        rcases hk with rfl | rfl | ⟨h1, h2, e⟩
        · have e : rputE K 3 1 = 0 := by simp [rputE, h0]
          have E := Lib.hid e; clear e h0
          go_enter Try.func11, Try.ntmps11
          go_wp2
          go_returns
          unfold RPut; rw [E.out]
          exact ⟨rfl, by simp only [if_true]; exact (heap_set (heap_set h)).trans (by simp [rcells, upd]), (grownBy_set1 _ _ _ _).trans (grownBy_set1 _ _ _ _)⟩
        · have e : rputE K 3 2 = 0 := by simp [rputE, h0]
          have E := Lib.hid e; clear e h0
          go_enter Try.func11, Try.ntmps11
          go_wp2
          go_returns
          unfold RPut; rw [E.out]
          exact ⟨rfl, by simp only [if_true]; exact (heap_set (heap_set h)).trans (by simp [rcells, upd]), (grownBy_set1 _ _ _ _).trans (grownBy_set1 _ _ _ _)⟩
        · have E := Lib.hid (e 3); clear e h0
          go_enter Try.func11, Try.ntmps11
          go_wp2
          go_returns
          unfold RPut; rw [E.out]
          exact ⟨rfl, h, World.grownBy.refl _ _⟩
      · have b0 : (K 3 != 0) = true := by simp [h0]
        have E := Lib.hid (show rputE K 3 k = 6 by simp [rputE, h0]); clear h0 hk
        go_enter Try.func11, Try.ntmps11
        go_wp2
        go_returns
        unfold RPut; rw [E.out]
        exact ⟨rfl, h, World.grownBy.refl _ _⟩
  · have E := Lib.hid (show rputE K i k = 6 by simp [rputE, hi])
    clear c0 c1 c2 c3 c4 c5 c6 c7 f0 f1 f2 f3 f4 f5 f6 f7
    by_cases h0 : i < 0
    · clear hi
      go_enter Try.func11, Try.ntmps11
      go_wp2
      go_returns
      unfold RPut; rw [E.out]
      exact ⟨rfl, h, World.grownBy.refl _ _⟩
    · have h1 : 3 < i := by omega
      clear hi
      go_enter Try.func11, Try.ntmps11
      go_wp2
      go_returns
      unfold RPut; rw [E.out]
      exact ⟨rfl, h, World.grownBy.refl _ _⟩

/-- Get of the document. -/
def rgetE (K : Nat → Int) (i k : Int) : Int := if decide (0 ≤ i ∧ i < 4) then (if K i.toNat == 0 || K i.toNat != k then 7 else 0) else 6
def RGet (w : World) (K S : Nat → Int) (i k : Int) (e : Ending) (w' : World) : Prop :=
  e = .returned (.tuple #[.int .i64 (if rgetE K i k = 0 then S i.toNat else 0), .int .i64 (rgetE K i k)]) ∧ w = w'
theorem rget_any {mb : Nat} (K S : Nat → Int) (i k : Int) (w : World) (h : RefAt w mb K S) :
    Calls Try.prog 12 #[.pointer (some ⟨mb, 0, none⟩), .int .i64 i, .int .i64 k] w (RGet w K S i k) := by
  have c0 := h.cell 0; have c1 := h.cell 1; have c2 := h.cell 2; have c3 := h.cell 3; have c4 := h.cell 4; have c5 := h.cell 5; have c6 := h.cell 6; have c7 := h.cell 7
  simp only [rcells, List.getElem?_toArray, List.getElem?_cons_zero, List.getElem?_cons_succ] at c0 c1 c2 c3 c4 c5 c6 c7
  by_cases hi : 0 ≤ i ∧ i < 4
  · have hc : i = 0 ∨ i = 1 ∨ i = 2 ∨ i = 3 := by omega
    clear hi
    rcases hc with rfl | rfl | rfl | rfl
    · by_cases h0 : K 0 = 0
      · have b0 : (K 0 == 0) = true := by simp [h0]
        have E := Lib.hid (show rgetE K 0 k = 7 by simp [rgetE, h0]); clear h0
        go_enter Try.func12, Try.ntmps12
        go_wp2
        go_returns
        unfold RGet; rw [E.out]; exact ⟨rfl, rfl⟩
      · have b0 : (K 0 == 0) = false := by simp [h0]
        by_cases h1 : K 0 = k
        · have b1 : (K 0 != k) = false := by simp [h1]
          have E := Lib.hid (show rgetE K 0 k = 0 by simp [rgetE, h0, ← h1]); clear h0 h1
          go_enter Try.func12, Try.ntmps12
          go_wp2
          go_returns
          unfold RGet; rw [E.out]; exact ⟨rfl, rfl⟩
        · have b1 : (K 0 != k) = true := by simp [h1]
          have E := Lib.hid (show rgetE K 0 k = 7 by simp [rgetE, h0, h1]); clear h0 h1
          go_enter Try.func12, Try.ntmps12
          go_wp2
          go_returns
          unfold RGet; rw [E.out]; exact ⟨rfl, rfl⟩
    · by_cases h0 : K 1 = 0
      · have b0 : (K 1 == 0) = true := by simp [h0]
        have E := Lib.hid (show rgetE K 1 k = 7 by simp [rgetE, h0]); clear h0
        go_enter Try.func12, Try.ntmps12
        go_wp2
        go_returns
        unfold RGet; rw [E.out]; exact ⟨rfl, rfl⟩
      · have b0 : (K 1 == 0) = false := by simp [h0]
        by_cases h1 : K 1 = k
        · have b1 : (K 1 != k) = false := by simp [h1]
          have E := Lib.hid (show rgetE K 1 k = 0 by simp [rgetE, h0, ← h1]); clear h0 h1
          go_enter Try.func12, Try.ntmps12
          go_wp2
          go_returns
          unfold RGet; rw [E.out]; exact ⟨rfl, rfl⟩
        · have b1 : (K 1 != k) = true := by simp [h1]
          have E := Lib.hid (show rgetE K 1 k = 7 by simp [rgetE, h0, h1]); clear h0 h1
          go_enter Try.func12, Try.ntmps12
          go_wp2
          go_returns
          unfold RGet; rw [E.out]; exact ⟨rfl, rfl⟩
    · by_cases h0 : K 2 = 0
      · have b0 : (K 2 == 0) = true := by simp [h0]
        have E := Lib.hid (show rgetE K 2 k = 7 by simp [rgetE, h0]); clear h0
        go_enter Try.func12, Try.ntmps12
        go_wp2
        go_returns
        unfold RGet; rw [E.out]; exact ⟨rfl, rfl⟩
      · have b0 : (K 2 == 0) = false := by simp [h0]
        by_cases h1 : K 2 = k
        · have b1 : (K 2 != k) = false := by simp [h1]
          have E := Lib.hid (show rgetE K 2 k = 0 by simp [rgetE, h0, ← h1]); clear h0 h1
          go_enter Try.func12, Try.ntmps12
          go_wp2
          go_returns
          unfold RGet; rw [E.out]; exact ⟨rfl, rfl⟩
        · have b1 : (K 2 != k) = true := by simp [h1]
          have E := Lib.hid (show rgetE K 2 k = 7 by simp [rgetE, h0, h1]); clear h0 h1
          go_enter Try.func12, Try.ntmps12
          go_wp2
          go_returns
          unfold RGet; rw [E.out]; exact ⟨rfl, rfl⟩
    · by_cases h0 : K 3 = 0
      · have b0 : (K 3 == 0) = true := by simp [h0]
        have E := Lib.hid (show rgetE K 3 k = 7 by simp [rgetE, h0]); clear h0
        go_enter Try.func12, Try.ntmps12
        go_wp2
        go_returns
        unfold RGet; rw [E.out]; exact ⟨rfl, rfl⟩
      · have b0 : (K 3 == 0) = false := by simp [h0]
        by_cases h1 : K 3 = k
        · have b1 : (K 3 != k) = false := by simp [h1]
          have E := Lib.hid (show rgetE K 3 k = 0 by simp [rgetE, h0, ← h1]); clear h0 h1
          go_enter Try.func12, Try.ntmps12
          go_wp2
          go_returns
          unfold RGet; rw [E.out]; exact ⟨rfl, rfl⟩
        · have b1 : (K 3 != k) = true := by simp [h1]
          have E := Lib.hid (show rgetE K 3 k = 7 by simp [rgetE, h0, h1]); clear h0 h1
          go_enter Try.func12, Try.ntmps12
          go_wp2
          go_returns
          unfold RGet; rw [E.out]; exact ⟨rfl, rfl⟩
  · have E := Lib.hid (show rgetE K i k = 6 by simp [rgetE, hi])
    by_cases h0 : i < 0
    · clear hi
      go_enter Try.func12, Try.ntmps12
      go_wp2
      go_returns
      unfold RGet; rw [E.out]; exact ⟨rfl, rfl⟩
    · have h1 : 3 < i := by omega
      clear hi
      go_enter Try.func12, Try.ntmps12
      go_wp2
      go_returns
      unfold RGet; rw [E.out]; exact ⟨rfl, rfl⟩

/-- Drop of the document. -/
def rdropE (K : Nat → Int) (i : Int) : Int := if decide (0 ≤ i ∧ i < 4) then (if K i.toNat == 0 then 7 else 0) else 6
def RDrop (w : World) (mb : Nat) (K S : Nat → Int) (i : Int) (e : Ending) (w' : World) : Prop :=
  e = .returned (.int .i64 (rdropE K i)) ∧ RefAt w' mb (if rdropE K i = 0 then upd K i 0 else K) (if rdropE K i = 0 then upd S i 0 else S) ∧ w.grownBy w' (some mb)
theorem rdrop_any {mb : Nat} (K S : Nat → Int) (i : Int) (w : World) (h : RefAt w mb K S) :
    Calls Try.prog 13 #[.pointer (some ⟨mb, 0, none⟩), .int .i64 i] w (RDrop w mb K S i) := by
  have c0 := h.cell 0; have c1 := h.cell 1; have c2 := h.cell 2; have c3 := h.cell 3; have c4 := h.cell 4; have c5 := h.cell 5; have c6 := h.cell 6; have c7 := h.cell 7
  have f0 := h.frozen 0; have f1 := h.frozen 1; have f2 := h.frozen 2; have f3 := h.frozen 3; have f4 := h.frozen 4; have f5 := h.frozen 5; have f6 := h.frozen 6; have f7 := h.frozen 7
  simp only [rcells, List.getElem?_toArray, List.getElem?_cons_zero, List.getElem?_cons_succ] at c0 c1 c2 c3 c4 c5 c6 c7
  by_cases hi : 0 ≤ i ∧ i < 4
  · have hc : i = 0 ∨ i = 1 ∨ i = 2 ∨ i = 3 := by omega
    clear hi
    rcases hc with rfl | rfl | rfl | rfl
    · by_cases h0 : K 0 = 0
      · have b0 : (K 0 == 0) = true := by simp [h0]
        have E := Lib.hid (show rdropE K 0 = 7 by simp [rdropE, h0]); clear h0
        go_enter Try.func13, Try.ntmps13
        go_wp2
        go_returns
        unfold RDrop; rw [E.out]; exact ⟨rfl, h, World.grownBy.refl _ _⟩
      · have b0 : (K 0 == 0) = false := by simp [h0]
        have E := Lib.hid (show rdropE K 0 = 0 by simp [rdropE, h0]); clear h0
        go_enter Try.func13, Try.ntmps13
        go_wp2
        go_returns
        unfold RDrop; rw [E.out]; exact ⟨rfl, by simp only [if_true]; exact (heap_set (heap_set h)).trans (by simp [rcells, upd]), (grownBy_set1 _ _ _ _).trans (grownBy_set1 _ _ _ _)⟩
    · by_cases h0 : K 1 = 0
      · have b0 : (K 1 == 0) = true := by simp [h0]
        have E := Lib.hid (show rdropE K 1 = 7 by simp [rdropE, h0]); clear h0
        go_enter Try.func13, Try.ntmps13
        go_wp2
        go_returns
        unfold RDrop; rw [E.out]; exact ⟨rfl, h, World.grownBy.refl _ _⟩
      · have b0 : (K 1 == 0) = false := by simp [h0]
        have E := Lib.hid (show rdropE K 1 = 0 by simp [rdropE, h0]); clear h0
        go_enter Try.func13, Try.ntmps13
        go_wp2
        go_returns
        unfold RDrop; rw [E.out]; exact ⟨rfl, by simp only [if_true]; exact (heap_set (heap_set h)).trans (by simp [rcells, upd]), (grownBy_set1 _ _ _ _).trans (grownBy_set1 _ _ _ _)⟩
    · by_cases h0 : K 2 = 0
      · have b0 : (K 2 == 0) = true := by simp [h0]
        have E := Lib.hid (show rdropE K 2 = 7 by simp [rdropE, h0]); clear h0
        go_enter Try.func13, Try.ntmps13
        go_wp2
        go_returns
        unfold RDrop; rw [E.out]; exact ⟨rfl, h, World.grownBy.refl _ _⟩
      · have b0 : (K 2 == 0) = false := by simp [h0]
        have E := Lib.hid (show rdropE K 2 = 0 by simp [rdropE, h0]); clear h0
        go_enter Try.func13, Try.ntmps13
        go_wp2
        go_returns
        unfold RDrop; rw [E.out]; exact ⟨rfl, by simp only [if_true]; exact (heap_set (heap_set h)).trans (by simp [rcells, upd]), (grownBy_set1 _ _ _ _).trans (grownBy_set1 _ _ _ _)⟩
    · by_cases h0 : K 3 = 0
      · have b0 : (K 3 == 0) = true := by simp [h0]
        have E := Lib.hid (show rdropE K 3 = 7 by simp [rdropE, h0]); clear h0
        go_enter Try.func13, Try.ntmps13
        go_wp2
        go_returns
        unfold RDrop; rw [E.out]; exact ⟨rfl, h, World.grownBy.refl _ _⟩
      · have b0 : (K 3 == 0) = false := by simp [h0]
        have E := Lib.hid (show rdropE K 3 = 0 by simp [rdropE, h0]); clear h0
        go_enter Try.func13, Try.ntmps13
        go_wp2
        go_returns
        unfold RDrop; rw [E.out]; exact ⟨rfl, by simp only [if_true]; exact (heap_set (heap_set h)).trans (by simp [rcells, upd]), (grownBy_set1 _ _ _ _).trans (grownBy_set1 _ _ _ _)⟩
  · have E := Lib.hid (show rdropE K i = 6 by simp [rdropE, hi])
    by_cases h0 : i < 0
    · clear hi
      go_enter Try.func13, Try.ntmps13
      go_wp2
      go_returns
      unfold RDrop; rw [E.out]; exact ⟨rfl, h, World.grownBy.refl _ _⟩
    · have h1 : 3 < i := by omega
      clear hi
      go_enter Try.func13, Try.ntmps13
      go_wp2
      go_returns
      unfold RDrop; rw [E.out]; exact ⟨rfl, h, World.grownBy.refl _ _⟩

/-- How many places have a key. -/
def cnt (K : Nat → Int) : Nat → Int
  | 0 => 0
  | j + 1 => if K j = 0 then cnt K j else cnt K j + 1
theorem cnt_le (K : Nat → Int) (j : Nat) : 0 ≤ cnt K j ∧ cnt K j ≤ j := by
  induction j with
  | zero => simp [cnt]
  | succ j ih => unfold cnt; split <;> omega
theorem rcount_any {mb : Nat} (K S : Nat → Int) (w : World) (h : RefAt w mb K S) :
    Calls Try.prog 14 #[.pointer (some ⟨mb, 0, none⟩)] w fun e w' => e = .returned (.int .i64 (cnt K 4)) ∧ w = w' := by
  have c0 := h.cell 0; have c1 := h.cell 1; have c2 := h.cell 2; have c3 := h.cell 3; have c4 := h.cell 4; have c5 := h.cell 5; have c6 := h.cell 6; have c7 := h.cell 7
  simp only [rcells, List.getElem?_toArray, List.getElem?_cons_zero, List.getElem?_cons_succ] at c0 c1 c2 c3 c4 c5 c6 c7
  have hcell : ∀ j : Nat, j < 4 → w.cell? ⟨mb, j * 2, none⟩ = some (.int .i64 (K j)) := by
    intro j hj
    have : j = 0 ∨ j = 1 ∨ j = 2 ∨ j = 3 := by omega
    rcases this with rfl | rfl | rfl | rfl <;> assumption
  clear c0 c1 c2 c3 c4 c5 c6 c7
  have HC := Lib.hid hcell; clear hcell
  go_enter Try.func14, Try.ntmps14
  go_wp2
  go_loop [3, 4] (fun n i => ∃ j : Nat, j ≤ 4 ∧ i = .int .i64 j ∧ n = .int .i64 (cnt K j)) (fun _ i => 4 - (intOf i).toNat)
  case atStart => exact ⟨0, by omega, rfl, rfl⟩
  case round =>
    obtain ⟨j, hj, rfl, rfl⟩ := hrel
    have hl := cnt_le K j
    by_cases hlt : j < 4
    · have hcj := HC.out j hlt
      by_cases h0 : K j = 0
      · have b0 : (K j != 0) = false := by simp [h0]
        have E := Lib.hid (show cnt K (j + 1) = cnt K j by simp [cnt, h0]); clear h0
        go_wp2
        go_round
        case rel => exact ⟨j + 1, by omega, by go_num, by rw [E.out]⟩
        case measure => simp [intOf]; omega
      · have b0 : (K j != 0) = true := by simp [h0]
        have E := Lib.hid (show cnt K (j + 1) = cnt K j + 1 by simp [cnt, h0]); clear h0
        go_wp2
        go_round
        case rel => exact ⟨j + 1, by omega, by go_num, by rw [E.out]⟩
        case measure => simp [intOf]; omega
    · obtain rfl : j = 4 := by omega
      go_wp2
      go_ret
      exact ⟨rfl, rfl⟩
end Go.Proofs.Ytiemcbeeehbhjaa
