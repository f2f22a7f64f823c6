/- Rows of ints. Conditions: each lemma's own. -/
import Derived.Test.YtdlmijcnjjdbbaaPv
namespace Go.Proofs.Ytdlmijcnjjdbbaa
open Go Go.RowKit

theorem infoInt : (Try.prog.info? 3).map (fun i => (i.zero, i.size, i.bytes)) = some (some (.int .i64 0), 1, 8) := by kernel_rfl
theorem underInts : Try.prog.underlying 29 = some (.slice 3) := by kernel_rfl

theorem ownsRow_slice {w : World} {base : Nat} {e : TypeId} {size : Nat} {v : Value} {n : Nat} {xs : List Value} (h : w.ownsRow base e size v n xs) : ∃ a cap, v = .slice a n cap := by
  rcases h.2 with ⟨rfl, h0⟩ | ⟨g, cap, cur, rfl, _⟩
  · exact ⟨none, 0, by rw [h0]⟩
  · exact ⟨_, _, rfl⟩
/-- A row of ints lies behind an address. -/
def IntsAt (w : World) (a : Option Addr) (l : List Int) : Prop := Elems w a 1 (l.map fun x => [.int .i64 x])
theorem IntsAt.at {w : World} {a : Option Addr} {l : List Int} (h : IntsAt w a l) {i : Nat} {x : Int} (hi : l[i]? = some x) :
    ∃ b off, a = some ⟨b, off, none⟩ ∧ b < w.heap.size ∧ w.cell? ⟨b, off + i, none⟩ = some (.int .i64 x) := by
  obtain ⟨b, off, ha, hb, hc⟩ := h i [.int .i64 x] (by simp [hi])
  have := hc 0 _ rfl
  simp only [Nat.mul_one, Nat.add_zero] at this
  exact ⟨b, off, ha, hb, this⟩
theorem IntsAt.mk {w : World} {a : Option Addr} {l : List Int} (h : ∀ i x, l[i]? = some x → ∃ b off, a = some ⟨b, off, none⟩ ∧ b < w.heap.size ∧ w.cell? ⟨b, off + i, none⟩ = some (.int .i64 x)) : IntsAt w a l := by
  intro i row hi
  rw [List.getElem?_map] at hi
  obtain ⟨x, hx, rfl⟩ := Option.map_eq_some_iff.1 hi
  obtain ⟨b, off, ha, hb, hc⟩ := h i x hx
  refine ⟨b, off, ha, hb, fun j v hj => ?_⟩
  cases j with
  | zero => simp at hj; subst hj; simpa using hc
  | succ j => simp at hj
theorem IntsAt.below {w w' : World} {a : Option Addr} {l : List Int} (h : IntsAt w a l) (hb : Below w.heap.size w w') : IntsAt w' a l := Elems.below h hb
theorem ownsRow_ints {w : World} {base : Nat} {e : TypeId} {v : Value} {n : Nat} {l : List Int} (h : w.ownsRow base e 1 v n (l.map fun x => .int .i64 x)) :
    n = l.length ∧ ∃ a cap, v = .slice a n cap ∧ n ≤ cap ∧ cap ≤ maxLen ∧ IntsAt w a l := by
  obtain ⟨h1, h2⟩ := h
  have hn : n = l.length := by simpa using h1.symm
  refine ⟨hn, ?_⟩
  rcases h2 with ⟨rfl, h0⟩ | ⟨g, cap, cur, rfl, hg, hh, h3, h4, h5, h6⟩
  · subst h0
    obtain rfl : l = [] := List.eq_nil_of_length_eq_zero hn.symm
    exact ⟨none, 0, rfl, by omega, by unfold maxLen; omega, Elems.nil⟩
  · refine ⟨_, cap, rfl, h3, h4, IntsAt.mk fun i x hi => ⟨g, 0, rfl, (Array.getElem?_eq_some_iff.1 hh).1, ?_⟩⟩
    have hl : i < n := by rw [hn]; exact (List.getElem?_eq_some_iff.1 hi).1
    have : (cur.toList.take (n * 1))[i]? = some (.int .i64 x) := by rw [h6, List.getElem?_map, hi]; rfl
    rw [List.getElem?_take_of_lt (by omega)] at this
    unfold World.cell?
    rw [hh]
    simp only [Nat.zero_add]
    simpa using this

end Go.Proofs.Ytdlmijcnjjdbbaa
