/- trace: what a trace is made of, and whether its blocks stand in order. Conditions: each lemma's own. -/
import Derived.Test.YtdlmijcnjjdbbaaOp
namespace Go.Proofs.Ytdlmijcnjjdbbaa
open Go Go.RowKit

structure SpanV where
  kind : Int
  lo : Int
  hi : Int
def SpanV.cells (s : SpanV) : List Value := [.int .i64 s.kind, .int .i64 s.lo, .int .i64 s.hi]
structure SpanV.Wf (s : SpanV) : Prop where
  kind : (Lit.int .i64 s.kind).wf = true
  lo : (Lit.int .i64 s.lo).wf = true
  hi : (Lit.int .i64 s.hi).wf = true

def spanB (last : Int) (s : SpanV) (m : Int) : Bool := decide (1 ≤ s.kind) && decide (s.kind ≤ 3) && decide (last ≤ s.lo) && decide (s.lo < s.hi) && decide (s.hi ≤ m)
def orderedB (m : Int) : Int → List SpanV → Bool
  | _, [] => true
  | last, s :: r => spanB last s m && orderedB m s.hi r

/-- A row of blocks lies behind an address. -/
def SpansAt (w : World) (a : Option Addr) (l : List SpanV) : Prop := Elems w a 3 (l.map SpanV.cells)
def OpsAt (w : World) (a : Option Addr) (l : List OpV) : Prop := Elems w a 6 (l.map OpV.cells)

theorem SpansAt.at {w : World} {a : Option Addr} {l : List SpanV} (h : SpansAt w a l) {i : Nat} {s : SpanV} (hi : l[i]? = some s) :
    ∃ b off, a = some ⟨b, off, none⟩ ∧ b < w.heap.size ∧ w.cell? ⟨b, off + i * 3, none⟩ = some (.int .i64 s.kind) ∧ w.cell? ⟨b, off + i * 3 + 1, none⟩ = some (.int .i64 s.lo) ∧ w.cell? ⟨b, off + i * 3 + 2, none⟩ = some (.int .i64 s.hi) := by
  obtain ⟨b, off, ha, hb, hc⟩ := h i s.cells (by simp [hi])
  exact ⟨b, off, ha, hb, hc 0 _ rfl, hc 1 _ rfl, hc 2 _ rfl⟩
theorem OpsAt.at {w : World} {a : Option Addr} {l : List OpV} (h : OpsAt w a l) {i : Nat} {o : OpV} (hi : l[i]? = some o) :
    ∃ b off, a = some ⟨b, off, none⟩ ∧ b < w.heap.size ∧ w.cell? ⟨b, off + i * 6, none⟩ = some (.int .i64 o.kind) ∧ w.cell? ⟨b, off + i * 6 + 1, none⟩ = some (.int .i64 o.dom) ∧ w.cell? ⟨b, off + i * 6 + 2, none⟩ = some (.int .i64 o.a) ∧
      w.cell? ⟨b, off + i * 6 + 3, none⟩ = some (.int .i64 o.b) ∧ w.cell? ⟨b, off + i * 6 + 4, none⟩ = some (.int .i64 o.d) ∧ w.cell? ⟨b, off + i * 6 + 5, none⟩ = some (.int .u64 o.c) := by
  obtain ⟨b, off, ha, hb, hc⟩ := h i o.cells (by simp [hi])
  exact ⟨b, off, ha, hb, hc 0 _ rfl, hc 1 _ rfl, hc 2 _ rfl, hc 3 _ rfl, hc 4 _ rfl, hc 5 _ rfl⟩

def OrdPost (B : Bool) (w : World) (e : Ending) (w' : World) : Prop := e = .returned (.bool B) ∧ Below w.heap.size w w'

theorem span_cases (last : Int) (s : SpanV) (m : Int) : (Hid (spanB last s m = true) ∧ 1 ≤ s.kind ∧ s.kind ≤ 3 ∧ last ≤ s.lo ∧ s.lo < s.hi ∧ s.hi ≤ m) ∨
    (Hid (spanB last s m = false) ∧ (s.kind < 1 ∨ (1 ≤ s.kind ∧ 3 < s.kind) ∨ (1 ≤ s.kind ∧ s.kind ≤ 3 ∧ s.lo < last) ∨ (1 ≤ s.kind ∧ s.kind ≤ 3 ∧ last ≤ s.lo ∧ s.hi ≤ s.lo) ∨ (1 ≤ s.kind ∧ s.kind ≤ 3 ∧ last ≤ s.lo ∧ s.lo < s.hi ∧ m < s.hi))) := by
  unfold Hid
  cases h : spanB last s m
  · right
    refine ⟨rfl, ?_⟩
    simp [spanB] at h
    omega
  · left
    refine ⟨rfl, ?_⟩
    simp [spanB] at h
    omega
theorem ordered_step {m last : Int} {l : List SpanV} {j : Nat} {s : SpanV} (hs : l[j]? = some s) : orderedB m last (l.drop j) = (spanB last s m && orderedB m s.hi (l.drop (j + 1))) := by
  obtain ⟨hj, rfl⟩ := List.getElem?_eq_some_iff.1 hs
  rw [List.drop_eq_getElem_cons hj]
  rfl

structure OrdSt (w : World) (n : Int) (oa : Option Addr) (ol oc : Nat) (ba : Option Addr) (bc : Nat) (l : List SpanV) (j : Nat) (last : Int) (wr : World) : Prop where
  below : Below w.heap.size w wr
  t1 : wr.cell? ⟨w.heap.size, 1, none⟩ = some (.slice oa ol oc)
  res : Hid (orderedB ol 0 l = orderedB ol last (l.drop j))

theorem OrdSt.next {w : World} {n : Int} {oa : Option Addr} {ol oc : Nat} {ba : Option Addr} {bc : Nat} {l : List SpanV} {j : Nat} {last : Int} {wr : World} (h : OrdSt w n oa ol oc ba bc l j last wr) {s : SpanV} (hs : l[j]? = some s)
    (hg : Hid (spanB last s ol = true)) (o : Obj) : OrdSt w n oa ol oc ba bc l (j + 1) s.hi (wr.alloc o) :=
  ⟨h.below.alloc h.below.size _, cell_al o h.t1, Lib.hid (by rw [h.res.out, ordered_step hs, hg.out]; rfl)⟩

set_option maxRecDepth 100000 in
theorem ordered_any (n : Int) (oa : Option Addr) (ol oc : Nat) (ba : Option Addr) (bc : Nat) (l : List SpanV) (hl : l.length ≤ maxLen) (w : World) (hS : SpansAt w ba l) :
    Calls Try.prog 50 #[.agg #[.int .i64 n, .slice oa ol oc, .slice ba l.length bc]] w (OrdPost (orderedB ol 0 l) w) := by
  have HS := Lib.hid hS; clear hS
  have hml : l.length ≤ 2 ^ 63 - 1 := hl
  clear hl
  go_enter Try.func50, Try.ntmps50
  go_wp2
  go_loopw [3, 9] (fun la i wr => ∃ (j : Nat) (last : Int), j ≤ l.length ∧ i = .int .i64 j ∧ la = .int .i64 last ∧ OrdSt w n oa ol oc ba bc l j last wr) (fun la i _ => l.length - (intOf i).toNat)
  case atStart =>
    refine ⟨0, 0, by omega, rfl, rfl, ⟨?_, ?_, ?_⟩⟩
    · go_grown
    · exact World.cell?_alloc_mark w #[.int .i64 n, .slice oa ol oc, .slice ba l.length bc] 25 (0, 0) 1
    · exact Lib.hid rfl
  case round =>
    obtain ⟨j, last, hj, rfl, rfl, hst⟩ := hrel
    by_cases hlt : j < l.length
    · obtain ⟨s, hs⟩ : ∃ s, l[j]? = some s := ⟨_, List.getElem?_eq_getElem hlt⟩
      obtain ⟨b, off, rfl, hb, c0, c1, c2⟩ := HS.out.at hs
      have q0 := (hst.below.cell (p := ⟨b, off + j * 3, none⟩) hb).trans c0
      have q1 := (hst.below.cell (p := ⟨b, off + j * 3 + 1, none⟩) hb).trans c1
      have q2 := (hst.below.cell (p := ⟨b, off + j * 3 + 2, none⟩) hb).trans c2
      have q3 := hst.t1
      have hsz := hst.below.size
      clear c0 c1 c2
      obtain ⟨kind, lo, hi⟩ := s
      rcases span_cases last ⟨kind, lo, hi⟩ ol with ⟨hg, h1, h2, h3, h4, h5⟩ | ⟨hg, hb⟩
      · dsimp only at h1 h2 h3 h4 h5 q0 q1 q2
        have q4 := cell_al (.cells #[.int .i64 kind, .int .i64 lo, .int .i64 hi] 71) q3
        go_wp2
        go_roundw
        case rel => exact ⟨j + 1, hi, by omega, by simp, rfl, hst.next hs hg _⟩
        case measure => simp [intOf]; omega
      · have q4 := cell_al (.cells #[.int .i64 kind, .int .i64 lo, .int .i64 hi] 71) q3
        have E : Hid (orderedB ol 0 l = false) := Lib.hid (by rw [hst.res.out, ordered_step hs, hg.out]; rfl)
        dsimp only at hb q0 q1 q2
        have hB := hst.below
        rcases hb with h1 | ⟨h1, h2⟩ | ⟨h1, h2, h3⟩ | ⟨h1, h2, h3, h4⟩ | ⟨h1, h2, h3, h4, h5⟩
        all_goals
          go_wp2
          go_ret
          exact ⟨by rw [E.out]; rfl, hB.alloc hsz _⟩
    · obtain rfl : j = l.length := by omega
      go_wp2
      go_ret
      exact ⟨by rw [hst.res.out]; simp [orderedB], hst.below⟩
end Go.Proofs.Ytdlmijcnjjdbbaa
