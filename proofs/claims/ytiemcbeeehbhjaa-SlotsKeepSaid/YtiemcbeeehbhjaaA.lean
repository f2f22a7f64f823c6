/- Contracts of the small functions of slots. -/
import Derived.Test.YtiemcbeeehbhjaaRows
import Derived.Maps.OwnSet
import Derived.Maps.AppendAt
import Derived.WalkKit
import Derived.Handy
import Derived.Deep.RegionHeld3
import Derived.Deep.DeepCutAuto
import Derived.Deep.QuietTactic
import Derived.BigQuiet
import Derived.Lib.Hide
import Derived.StillTailTactics
import Derived.RangeFuncOwn
namespace Go.Proofs.Ytiemcbeeehbhjaa
open Go.RowKit Go.Maps

theorem place_any (i : Int) (w : World) : Calls Try.prog 16 #[.int .i64 i] w fun e w' => e = .returned (.bool (decide (0 ≤ i ∧ i < 4))) ∧ w = w' := by
  by_cases h : 0 ≤ i
  · by_cases h2 : i < 4
    all_goals
      go_enter Try.func16, Try.ntmps16
      go_wp2
      go_ret
      exact ⟨by simp [*], rfl⟩
  · have h2 : ¬ (0 ≤ i ∧ i < 4) := by omega
    go_enter Try.func16, Try.ntmps16
    go_wp2
    go_ret
    exact ⟨by simp [*], rfl⟩

/-- A slot's value. -/
def slotV (k s : Int) (a : Option Addr) (l c : Nat) (a' : Option Addr) (l' c' : Nat) : Value := .agg #[.int .i64 k, .int .i64 s, .slice a l c, .slice a' l' c']
/-- How a slot reads: as itself. -/
def RV : Value → Option (DataW Value × List MemPlace)
  | .agg ⟨[.int .i64 k, .int .i64 s, .slice a l c, .slice a' l' c']⟩ => if (Lit.int .i64 k).wf = true then some (.held (slotV k s a l c a' l' c'), []) else none
  | _ => none
theorem RV_inv {v : Value} {d : DataW Value} {ps : List MemPlace} (h : RV v = some (d, ps)) :
    ∃ k s a l c a' l' c', v = .agg #[.int .i64 k, .int .i64 s, .slice a l c, .slice a' l' c'] ∧ d = .held (slotV k s a l c a' l' c') ∧ (Lit.int .i64 k).wf = true := by
  unfold RV at h
  split at h
  · split at h
    · rename_i k s a l c a' l' c' hc
      simp at h
      exact ⟨k, s, a, l, c, a', l', c', rfl, h.1.symm, hc⟩
    · cases h
  · cases h
theorem RV_mk {k s : Int} {a : Option Addr} {l c : Nat} {a' : Option Addr} {l' c' : Nat} (hk : (Lit.int .i64 k).wf = true) : RV (.agg #[.int .i64 k, .int .i64 s, .slice a l c, .slice a' l' c']) = some (.held (slotV k s a l c a' l' c'), []) := by
  simp [RV, hk]
theorem law3 : Keyed Try.prog 3 := int_keyed Try.underlying3
def zslot : Value := slotV 0 0 none 0 0 none 0 0
theorem zero27 (w : World) : (zeroValue 27).run Try.prog w = .ok zslot w := by kernel_rfl
theorem RV_zero : RV zslot = some (.held zslot, []) := RV_mk (by decide)

def freeB (D : DataW Value) (i : Int) : Bool := decide (0 ≤ i ∧ i < 4) && !Maps.has D (.int .i64 i)

theorem cell_al {W : World} {a : Addr} {v : Value} (o : Obj) (h : W.cell? a = some v) : (W.alloc o).cell? a = some v := (World.cell?_alloc_lt _ _ _ (World.block_lt_of_cell? _ _ h)).trans h
theorem _root_.Go.RowKit.Below.grownBy {W w1 : World} (hb : Below W.heap.size W w1) (row : Option Nat) : W.grownBy w1 row := ⟨hb.os, hb.tape, hb.output, hb.size, fun k hk _ => hb.block k hk⟩
theorem undrew {w w' : World} {r : Option Nat} (h : w.drew.grownBy w' r) : w.grownBy w' r := ⟨h.os, h.tape, h.output, h.size, h.block⟩
theorem bcell {W w1 : World} (hb : Below W.heap.size W w1) : (∀ b o, b < W.heap.size → w1.cell? ⟨b, o, none⟩ = W.cell? ⟨b, o, none⟩) ∧ (∀ b o, b < W.heap.size → w1.frozen? ⟨b, o, none⟩ = W.frozen? ⟨b, o, none⟩) :=
  ⟨fun b o h => hb.cell (p := ⟨b, o, none⟩) h, fun b o h => hb.frozen (p := ⟨b, o, none⟩) h⟩
theorem _root_.Go.World.ownsMap.below {H : Type} {P : Program} {k : TypeId} {R : Value → Option (DataW H × List MemPlace)} {w w' : World} {b n B : Nat} {D : DataW H} (h : w.ownsMap P k R b n D) (hb : Below B w w') (hB : b < B) : w'.ownsMap P k R b n D := by
  obtain ⟨es, clock, h1, h2⟩ := h
  exact ⟨es, clock, (hb.block b hB).trans h1, h2⟩

theorem free_any {sb bm n : Nat} (D : DataW Value) (i : Int) (w : World) (c0 : w.cell? ⟨sb, 0, none⟩ = some (.map (some bm))) (hown : w.ownsMap Try.prog 3 RV bm n D) (hw : (Lit.int .i64 i).wf = true) :
    Calls Try.prog 8 #[.pointer (some ⟨sb, 0, none⟩), .int .i64 i] w fun e w' => e = .returned (.bool (freeB D i)) ∧ Below w.heap.size w w' := by
  have hkey := keyOf_int_mk Try.underlying3 hw
  by_cases h : 0 ≤ i ∧ i < 4
  · go_enter Try.func8, Try.ntmps8
    go_wp2_with (first
      | (go_at_call 16; refine (place_any _ _).mono ?_; rintro e w' ⟨rfl, rfl⟩)
      | (at_lookup; refine wpList_lookup_own_ok _ rfl _ _ 56 rfl 3 27 law3 Try.underlying56 RV (zero27 _) (.held zslot) [] RV_zero bm n D rfl hown _ _ rfl hkey ?_; intro v ps hv; obtain ⟨k0, s0, a0, l0, m0, a1, l1, m1, rfl, hd, hk0⟩ := RV_inv hv; clear hv hd))
    go_ret
    exact ⟨by simp [freeB, h], by go_grown⟩
  · go_enter Try.func8, Try.ntmps8
    go_wp2_with (first
      | (go_at_call 16; refine (place_any _ _).mono ?_; rintro e w' ⟨rfl, rfl⟩))
    go_ret
    exact ⟨by simp [freeB, h], by go_grown⟩

def putB (D : DataW Value) (i k : Int) : Bool := freeB D i && (k == 1 || k == 2)

theorem put_any {sb bm n : Nat} (D : DataW Value) (i k s : Int) (a : Option Addr) (l c : Nat) (a' : Option Addr) (l' c' : Nat) (w : World) (c0 : w.cell? ⟨sb, 0, none⟩ = some (.map (some bm))) (hown : w.ownsMap Try.prog 3 RV bm n D) (hn : n < maxLen) (hw : (Lit.int .i64 i).wf = true)
    (hk : (Lit.int .i64 k).wf = true) :
    Calls Try.prog 6 #[.pointer (some ⟨sb, 0, none⟩), .int .i64 i, .agg #[.int .i64 k, .int .i64 s, .slice a l c, .slice a' l' c']] w fun e w' =>
      e = .returned (.int .i64 (if putB D i k then 0 else 6)) ∧ w'.ownsMap Try.prog 3 RV bm (n + 1) (if putB D i k then D.put (.int .i64 i) (.held (slotV k s a l c a' l' c')) else D) ∧ w.grownBy w' (some bm) := by
  have hkey := keyOf_int_mk Try.underlying3 hw
  have hsb : sb < w.heap.size := World.block_lt_of_cell? _ _ c0
  by_cases hf : freeB D i = true
  · by_cases hk1 : k = 1 ∨ k = 2
    · have hp : putB D i k = true := by simp [putB, hf, hk1]
      rcases hk1 with rfl | rfl
      all_goals
        go_enter Try.func6, Try.ntmps6
        go_wp2_with (first
          | (go_at_call 8; go_loud (refine (free_any D i _ (cell_al _ c0) (hown.alloc _) hw).mono ?_; rintro e w' ⟨rfl, hb⟩; obtain ⟨hc, hfz⟩ := bcell hb; have hown1 := (hown.alloc _).below hb (hown.alloc _).lt; have hsz := hb.size)))
        go_still_tail 6, (by kernel_rfl)
        go_wp2_with (first
          | (at_mapUpdate; go_loud (refine wpList_mapUpdate_in _ rfl _ _ _ 56 rfl 3 27 law3 Try.underlying56 RV bm n D rfl hown1.drew hn _ _ _ rfl rfl hkey _ [] (RV_mk (by decide)) ?_; intro w2 hown2 hturn2)))
        go_ret
        simp only [hp, if_true]
        exact ⟨rfl, hown2, ((World.grownBy_alloc w _ _).trans (hb.grownBy _)).trans (undrew hturn2.grown)⟩
    · have hp : putB D i k = false := by simp [putB]; omega
      have h1 : (k == 1) = false := by simp; omega
      have h2 : (k == 2) = false := by simp; omega
      have h1' : (k != 1) = true := by simp; omega
      have h2' : (k != 2) = true := by simp; omega
      go_enter Try.func6, Try.ntmps6
      go_wp2_with (first
        | (go_at_call 8; go_loud (refine (free_any D i _ (cell_al _ c0) (hown.alloc _) hw).mono ?_; rintro e w' ⟨rfl, hb⟩; obtain ⟨hc, hfz⟩ := bcell hb; have hown1 := (hown.alloc _).below hb (hown.alloc _).lt; have hsz := hb.size)))
      all_goals
        go_ret
        simp only [hp]
        exact ⟨rfl, hown1.mono (by omega), (World.grownBy_alloc w _ _).trans (hb.grownBy _)⟩
  · have hp : putB D i k = false := by simp [putB, hf]
    go_enter Try.func6, Try.ntmps6
    go_wp2_with (first
      | (go_at_call 8; go_loud (refine (free_any D i _ (cell_al _ c0) (hown.alloc _) hw).mono ?_; rintro e w' ⟨rfl, hb⟩; obtain ⟨hc, hfz⟩ := bcell hb; have hown1 := (hown.alloc _).below hb (hown.alloc _).lt; have hsz := hb.size)))
    all_goals
      go_ret
      simp only [hp]
      exact ⟨rfl, hown1.mono (by omega), (World.grownBy_alloc w _ _).trans (hb.grownBy _)⟩

def slotAt (D : DataW Value) (i : Int) : Value := match D.atKey (.int .i64 i) (.held zslot) with | .held v => v | _ => zslot
def kindOf : Value → Int | .agg ⟨.int _ k :: _⟩ => k | _ => 0
def sizeOf' : Value → Int | .agg ⟨_ :: .int _ s :: _⟩ => s | _ => 0
/-- What Get tells. -/
def getE (D : DataW Value) (i k : Int) : Int := if decide (0 ≤ i ∧ i < 4) then (if Maps.has D (.int .i64 i) && kindOf (slotAt D i) == k then 0 else 7) else 6
def getV (D : DataW Value) (i k : Int) : Value := if getE D i k = 0 then slotAt D i else zslot

def GetPost (D : DataW Value) (i k : Int) (w : World) (e : Ending) (w' : World) : Prop :=
  ∃ k0 s0 a l c a' l' c', e = .returned (.tuple #[.agg #[.int .i64 k0, .int .i64 s0, .slice a l c, .slice a' l' c'], .int .i64 (getE D i k)]) ∧ getV D i k = slotV k0 s0 a l c a' l' c' ∧ Below w.heap.size w w'
theorem get_any {sb bm n : Nat} (D : DataW Value) (i k : Int) (w : World) (c0 : w.cell? ⟨sb, 0, none⟩ = some (.map (some bm))) (hown : w.ownsMap Try.prog 3 RV bm n D) (hw : (Lit.int .i64 i).wf = true) :
    Calls Try.prog 5 #[.pointer (some ⟨sb, 0, none⟩), .int .i64 i, .int .i64 k] w (GetPost D i k w) := by
  have hkey := keyOf_int_mk Try.underlying3 hw
  have hsb : sb < w.heap.size := World.block_lt_of_cell? _ _ c0
  by_cases h : 0 ≤ i ∧ i < 4
  · go_enter Try.func5, Try.ntmps5
    go_wp2_with (first
      | (go_at_call 16; refine (place_any _ _).mono ?_; rintro e w' ⟨rfl, rfl⟩)
      | (at_lookup; refine wpList_lookup_own_ok _ rfl _ _ 56 rfl 3 27 law3 Try.underlying56 RV (zero27 _) (.held zslot) [] RV_zero bm n D rfl (hown.alloc _) _ _ rfl hkey ?_; intro v ps hv; obtain ⟨k0, s0, a0, l0, m0, a1, l1, m1, rfl, hd, hk0⟩ := RV_inv hv; have Hd := Lib.hid hd; clear hv hd))
    all_goals
      have hs : slotAt D i = slotV k0 s0 a0 l0 m0 a1 l1 m1 := by unfold slotAt; rw [Hd.out]
    · have E : getE D i k = 7 := by simp_all [getE, slotV, kindOf]
      have e2 : getV D i k = zslot := by simp [getV, E]
      have Ee := Lib.hid E; have E2 := Lib.hid e2; clear E e2
      go_returns
      exact ⟨_, _, _, _, _, _, _, _, by rw [Ee.out], E2.out, by go_grown⟩
    · have E : getE D i k = 0 := by simp_all [getE, slotV, kindOf]
      have e2 : getV D i k = slotV k0 s0 a0 l0 m0 a1 l1 m1 := by simp [getV, E, hs]
      have Ee := Lib.hid E; have E2 := Lib.hid e2; clear E e2
      go_returns
      exact ⟨_, _, _, _, _, _, _, _, by rw [Ee.out], E2.out, by go_grown⟩
    · have E : getE D i k = 7 := by simp_all [getE]
      have e2 : getV D i k = zslot := by simp [getV, E]
      have Ee := Lib.hid E; have E2 := Lib.hid e2; clear E e2
      go_returns
      exact ⟨_, _, _, _, _, _, _, _, by rw [Ee.out], E2.out, by go_grown⟩
  · have E : getE D i k = 6 := by simp [getE, h]
    have e2 : getV D i k = zslot := by simp [getV, E]
    have Ee := Lib.hid E; have E2 := Lib.hid e2; clear E e2
    go_enter Try.func5, Try.ntmps5
    go_wp2_with (first
      | (go_at_call 16; refine (place_any _ _).mono ?_; rintro e w' ⟨rfl, rfl⟩))
    go_returns
    exact ⟨_, _, _, _, _, _, _, _, by rw [Ee.out], E2.out, by go_grown⟩

theorem get_nil (i k : Int) (w : World) : Calls Try.prog 5 #[.pointer none, .int .i64 i, .int .i64 k] w fun e w' => e = .returned (.tuple #[.agg #[.int .i64 0, .int .i64 0, .slice none 0 0, .slice none 0 0], .int .i64 1]) ∧ Below w.heap.size w w' := by
  go_enter Try.func5, Try.ntmps5
  go_wp2
  go_returns
  exact ⟨rfl, by go_grown⟩
theorem put_nil (i k s : Int) (w : World) : Calls Try.prog 6 #[.pointer none, .int .i64 i, .agg #[.int .i64 k, .int .i64 s, .slice none 0 0, .slice none 0 0]] w fun e w' => e = .returned (.int .i64 1) ∧ Below w.heap.size w w' := by
  go_enter Try.func6, Try.ntmps6
  go_wp2
  go_returns
  exact ⟨rfl, by go_grown⟩
theorem drop_nil' (i : Int) (w : World) : Calls Try.prog 7 #[.pointer none, .int .i64 i] w fun e w' => e = .returned (.int .i64 1) ∧ w = w' := by
  go_enter Try.func7, Try.ntmps7
  go_wp2
  go_returns
  exact ⟨rfl, rfl⟩
theorem free_nil (i : Int) (w : World) : Calls Try.prog 8 #[.pointer none, .int .i64 i] w fun e w' => e = .returned (.bool false) ∧ w = w' := by
  go_enter Try.func8, Try.ntmps8
  go_wp2
  go_returns
  exact ⟨rfl, rfl⟩
theorem count_nil (w : World) : Calls Try.prog 9 #[.pointer none] w fun e w' => e = .returned (.int .i64 0) ∧ w = w' := by
  go_enter Try.func9, Try.ntmps9
  go_wp2
  go_returns
  exact ⟨rfl, rfl⟩
theorem new_any (w : World) : Calls Try.prog 10 #[] w fun e w' => e = .returned (.pointer (some ⟨w.heap.size + 1, 0, none⟩)) ∧ w' = (w.alloc (.map #[] 0)).alloc (.cells #[.map (some w.heap.size)] 58) := by
  have hmm := @run_makeMap Try.prog
  go_enter Try.func10, Try.ntmps10
  go_wp2
  go_returns
  exact ⟨rfl, rfl⟩
theorem count_any {sb bm n : Nat} (D : DataW Value) (w : World) (c0 : w.cell? ⟨sb, 0, none⟩ = some (.map (some bm))) (hown : w.ownsMap Try.prog 3 RV bm n D) :
    Calls Try.prog 9 #[.pointer (some ⟨sb, 0, none⟩)] w fun e w' => e = .returned (.int .i64 (Maps.size D)) ∧ w = w' := by
  go_enter Try.func9, Try.ntmps9
  go_wp2_with (at_len; refine wpList_len_own _ rfl _ 56 rfl 3 27 Try.underlying56 _ bm n D rfl hown ?_)
  go_returns
  exact ⟨rfl, rfl⟩

def dropE (D : DataW Value) (i : Int) : Int := if decide (0 ≤ i ∧ i < 4) then (if Maps.has D (.int .i64 i) then 0 else 7) else 6
theorem drop_any {sb bm n : Nat} (D : DataW Value) (i : Int) (w : World) (c0 : w.cell? ⟨sb, 0, none⟩ = some (.map (some bm))) (hown : w.ownsMap Try.prog 3 RV bm n D) (hw : (Lit.int .i64 i).wf = true) :
    Calls Try.prog 7 #[.pointer (some ⟨sb, 0, none⟩), .int .i64 i] w fun e w' =>
      e = .returned (.int .i64 (dropE D i)) ∧ w'.ownsMap Try.prog 3 RV bm n (if dropE D i = 0 then D.del (.int .i64 i) else D) ∧ w.grownBy w' (some bm) := by
  have hkey := keyOf_int_mk Try.underlying3 hw
  have hsb : sb < w.heap.size := World.block_lt_of_cell? _ _ c0
  by_cases h : 0 ≤ i ∧ i < 4
  · by_cases hh : Maps.has D (.int .i64 i) = true
    · have hf : freeB D i = false := by simp [freeB, hh]
      have e : dropE D i = 0 := by simp [dropE, h, hh]
      go_enter Try.func7, Try.ntmps7
      go_wp2_with (first
        | (go_at_call 16; refine (place_any _ _).mono ?_; rintro e w' ⟨rfl, rfl⟩)
        | (go_at_call 8; go_loud (refine (free_any D i _ c0 hown hw).mono ?_; rintro e w' ⟨rfl, hb⟩; obtain ⟨hc, hfz⟩ := bcell hb; have hown1 := hown.below hb hown.lt; have hsz := hb.size))
        | (at_delete; go_loud (refine wpList_delete_own _ rfl _ _ 56 3 rfl 27 law3 Try.underlying56 _ bm n D rfl hown1 _ _ rfl hkey ?_; intro w2 hown2 hturn2)))
      go_returns
      exact ⟨rfl, hown2, (hb.grownBy _).trans hturn2.grown⟩
    · have hf : freeB D i = true := by simp [freeB, hh, h]
      have e : dropE D i = 7 := by simp [dropE, h, hh]
      go_enter Try.func7, Try.ntmps7
      go_wp2_with (first
        | (go_at_call 16; refine (place_any _ _).mono ?_; rintro e w' ⟨rfl, rfl⟩)
        | (go_at_call 8; go_loud (refine (free_any D i _ c0 hown hw).mono ?_; rintro e w' ⟨rfl, hb⟩; obtain ⟨hc, hfz⟩ := bcell hb; have hown1 := hown.below hb hown.lt; have hsz := hb.size)))
      go_returns
      exact ⟨rfl, hown1, hb.grownBy _⟩
  · have e : dropE D i = 6 := by simp [dropE, h]
    go_enter Try.func7, Try.ntmps7
    go_wp2_with (first
      | (go_at_call 16; refine (place_any _ _).mono ?_; rintro e w' ⟨rfl, rfl⟩))
    go_returns
    exact ⟨rfl, hown, World.grownBy.refl _ _⟩

end Go.Proofs.Ytiemcbeeehbhjaa
