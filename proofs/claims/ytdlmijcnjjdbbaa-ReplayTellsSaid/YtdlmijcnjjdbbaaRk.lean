/- visorref29.Check: why nothing is made. Conditions: each lemma's own. -/
import Derived.Test.YtdlmijcnjjdbbaaRu
import Derived.Test.YtdlmijcnjjdbbaaRs
namespace Go.Proofs.Ytdlmijcnjjdbbaa
open Go Go.RowKit

def lensB (blind : Bool) (keys opened masks : Nat) (ops : List OpV) : Bool := decide (masks = kn ops 1) && (if blind = true then decide (opened = kn ops 12) else decide (keys = kn ops 2))
def ErrPost (z : Int) (w : World) (e : Ending) (w' : World) : Prop := e = .returned (.int .i64 z) ∧ Below w.heap.size w w'

set_option maxRecDepth 100000 in
set_option maxHeartbeats 2000000 in
theorem rcheck_any (n : Int) (oa : Option Addr) (oc : Nat) (ops : List OpV) (ba : Option Addr) (bc : Nat) (l : List SpanV) (keys opened masks : Nat) (blind : Bool) (w : World) (hT : TraceAt w oa oc ops ba bc l) :
    Calls Try.prog 9 #[.agg #[.int .i64 n, .slice oa ops.length oc, .slice ba l.length bc], .int .i64 keys, .int .i64 opened, .int .i64 masks, .bool blind] w (ErrPost (errV (checkB n ops l) (lensB blind keys opened masks ops)) w) := by
  have HT := Lib.hid hT
  clear hT
  have w2 : Hid (kc ops 2 = ((kn ops 2 : Nat) : Int)) := Lib.hid (kn_kc ops 2 (by omega) (by omega))
  have w1 : Hid (kc ops 1 = ((kn ops 1 : Nat) : Int)) := Lib.hid (kn_kc ops 1 (by omega) (by omega))
  have w12 : Hid (kc ops 12 = ((kn ops 12 : Nat) : Int)) := Lib.hid (kn_kc ops 12 (by omega) (by omega))
  cases hc : checkB n ops l
  · have HC := Lib.hid hc; clear hc
    go_enter Try.func9, Try.ntmps9
    go_wp2_with fail
    refine (tright_any n oa oc ops ba bc l _ (HT.out.below (below_al _ _))).mono ?_
    rintro e w3 ⟨rfl, hb⟩
    rw [HC.out]
    have HB := Lib.hid ((below_al w _).trans (hb.mono (by rw [World.size_alloc]; exact Nat.le_succ _)))
    clear hb
    go_wp2_with fail
    go_ret
    exact ⟨rfl, HB.out⟩
  · have HC := Lib.hid hc; clear hc
    have hcase : ((((masks : Nat) : Int) != ((kn ops 1 : Nat) : Int)) = true ∧ Hid (lensB blind keys opened masks ops = false)) ∨ ((((masks : Nat) : Int) != ((kn ops 1 : Nat) : Int)) = false ∧
        ((blind = true ∧ (((opened : Nat) : Int) != ((kn ops 12 : Nat) : Int)) = true ∧ Hid (lensB blind keys opened masks ops = false)) ∨ (blind = true ∧ (((opened : Nat) : Int) != ((kn ops 12 : Nat) : Int)) = false ∧ Hid (lensB blind keys opened masks ops = true)) ∨
         (blind = false ∧ (((keys : Nat) : Int) != ((kn ops 2 : Nat) : Int)) = true ∧ Hid (lensB blind keys opened masks ops = false)) ∨ (blind = false ∧ (((keys : Nat) : Int) != ((kn ops 2 : Nat) : Int)) = false ∧ Hid (lensB blind keys opened masks ops = true)))) := by
      unfold Hid lensB
      by_cases h1 : masks = kn ops 1
      · cases blind
        · by_cases h2 : keys = kn ops 2 <;> simp [h1, h2] <;> omega
        · by_cases h2 : opened = kn ops 12 <;> simp [h1, h2] <;> omega
      · simp [h1]; omega
    rcases hcase with ⟨h1, hl⟩ | ⟨h1, ⟨rfl, h2, hl⟩ | ⟨rfl, h2, hl⟩ | ⟨rfl, h2, hl⟩ | ⟨rfl, h2, hl⟩⟩
    all_goals
      go_enter Try.func9, Try.ntmps9
      go_wp2_with fail
      refine (tright_any n oa oc ops ba bc l _ (HT.out.below (below_al _ _))).mono ?_
      rintro e w3 ⟨rfl, hb⟩
      rw [HC.out]
      have hx := (TrBox.new n oa ops.length oc ba l.length bc w 25).kept hb
      have t0 := hx.x0; have t1 := hx.x1; have t2 := hx.x2
      have HX := Lib.hid hx
      clear hb hx
      go_wp2_with fail
      refine (rtally_any n oa oc ops ba l.length bc _ (by exact Elems.below HT.out.atOps HX.out.below) HT.out.olen).mono ?_
      rintro e w4 ⟨rfl, hb⟩
      unfold tcells
      rw [w1.out, w2.out, w12.out]
      have HB := Lib.hid (HX.out.kept hb).below
      clear hb t0 t1 t2
      go_wp2_with fail
      go_ret
      exact ⟨by rw [hl.out]; rfl, HB.out.alloc HB.out.size _⟩
end Go.Proofs.Ytdlmijcnjjdbbaa
