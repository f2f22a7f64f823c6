/- Words and planes are like themselves. -/
import Derived.Test.YtiemcbeeehbhjaaC
import Derived.Test.YtiemcbeeehbhjaaP
import Derived.DeepKeys
namespace Go.Proofs.Ytiemcbeeehbhjaa
open Go Go.RowKit

theorem cellsOf51 : Try.prog.cellsOf 51 = 3 := by kernel_rfl
theorem cellsOf49 : Try.prog.cellsOf 49 = 3 := by kernel_rfl
theorem cellsOf3 : Try.prog.cellsOf 3 = 1 := by kernel_rfl
theorem cellsOf53 : Try.prog.cellsOf 53 = 24 := by kernel_rfl

theorem word_lits (d : Nat) {a b c : Int} (ha : (Lit.int .i64 a).wf = true) (hb : (Lit.int .i64 b).wf = true) (hc : (Lit.int .i64 c).wf = true) :
    Try.prog.keyLits (d + 3) 51 [.int .i64 a, .int .i64 b, .int .i64 c] = some [.int .i64 a, .int .i64 b, .int .i64 c] := by
  simp [Program.keyLits, Try.underlying51, Try.underlying49, Try.underlying3, cellsOf51, cellsOf49, cellsOf3, ha, hb, hc, List.range_succ]
theorem word_formed {a b c : Int} : (Value.agg #[.int .i64 a, .int .i64 b, .int .i64 c]).formed Try.prog 51 = true := by
  simp [Value.formed, Try.underlying51, cellsOf51]
theorem keyType51 : Try.prog.keyType 51 = true := by kernel_rfl
theorem keyTypeAt51 : Try.prog.keyTypeAt 76 51 = true := by kernel_rfl
theorem types : Try.prog.types.size = 75 := by kernel_rfl

theorem eq51 {a b c : Int} (ha : (Lit.int .i64 a).wf = true) (hb : (Lit.int .i64 b).wf = true) (hc : (Lit.int .i64 c).wf = true) (w : World) :
    (Op.equalIn 10000 51 (.agg #[.int .i64 a, .int .i64 b, .int .i64 c]) (.agg #[.int .i64 a, .int .i64 b, .int .i64 c])).run Try.prog w = .ok true w := by
  have hk : keyOf Try.prog 51 (.agg #[.int .i64 a, .int .i64 b, .int .i64 c]) = some (.string (keyBytes [.int .i64 a, .int .i64 b, .int .i64 c])) := by
    simp only [keyOf, Try.underlying51, keyType51, word_formed, Bool.and_self, if_true, types, Value.cells]
    rw [word_lits 73 ha hb hc]
    rfl
  obtain ⟨r, hr, hi⟩ := run_equal_deep w (m := 76) (by omega) keyTypeAt51 (by rw [Try.underlying51]) hk hk
  rw [show r = true from hi.2 rfl] at hr
  exact hr

theorem planes_lits (d : Nat) (f : Nat → Int) (hf : ∀ i, i < 24 → (Lit.int .i64 (f i)).wf = true) :
    Try.prog.keyLits (d + 4) 53 [.int .i64 (f 0), .int .i64 (f 1), .int .i64 (f 2), .int .i64 (f 3), .int .i64 (f 4), .int .i64 (f 5), .int .i64 (f 6), .int .i64 (f 7), .int .i64 (f 8), .int .i64 (f 9), .int .i64 (f 10), .int .i64 (f 11), .int .i64 (f 12), .int .i64 (f 13), .int .i64 (f 14), .int .i64 (f 15), .int .i64 (f 16), .int .i64 (f 17), .int .i64 (f 18), .int .i64 (f 19), .int .i64 (f 20), .int .i64 (f 21), .int .i64 (f 22), .int .i64 (f 23)] = some [.int .i64 (f 0), .int .i64 (f 1), .int .i64 (f 2), .int .i64 (f 3), .int .i64 (f 4), .int .i64 (f 5), .int .i64 (f 6), .int .i64 (f 7), .int .i64 (f 8), .int .i64 (f 9), .int .i64 (f 10), .int .i64 (f 11), .int .i64 (f 12), .int .i64 (f 13), .int .i64 (f 14), .int .i64 (f 15), .int .i64 (f 16), .int .i64 (f 17), .int .i64 (f 18), .int .i64 (f 19), .int .i64 (f 20), .int .i64 (f 21), .int .i64 (f 22), .int .i64 (f 23)] := by
  have h0 := hf 0 (by omega)
  have h1 := hf 1 (by omega)
  have h2 := hf 2 (by omega)
  have h3 := hf 3 (by omega)
  have h4 := hf 4 (by omega)
  have h5 := hf 5 (by omega)
  have h6 := hf 6 (by omega)
  have h7 := hf 7 (by omega)
  have h8 := hf 8 (by omega)
  have h9 := hf 9 (by omega)
  have h10 := hf 10 (by omega)
  have h11 := hf 11 (by omega)
  have h12 := hf 12 (by omega)
  have h13 := hf 13 (by omega)
  have h14 := hf 14 (by omega)
  have h15 := hf 15 (by omega)
  have h16 := hf 16 (by omega)
  have h17 := hf 17 (by omega)
  have h18 := hf 18 (by omega)
  have h19 := hf 19 (by omega)
  have h20 := hf 20 (by omega)
  have h21 := hf 21 (by omega)
  have h22 := hf 22 (by omega)
  have h23 := hf 23 (by omega)
  unfold Program.keyLits
  simp [Try.underlying53, cellsOf53, cellsOf51, List.range_succ, word_lits d h0 h1 h2, word_lits d h3 h4 h5, word_lits d h6 h7 h8, word_lits d h9 h10 h11, word_lits d h12 h13 h14, word_lits d h15 h16 h17, word_lits d h18 h19 h20, word_lits d h21 h22 h23]
theorem planes_formed (f : Nat → Int) : (Value.agg #[.int .i64 (f 0), .int .i64 (f 1), .int .i64 (f 2), .int .i64 (f 3), .int .i64 (f 4), .int .i64 (f 5), .int .i64 (f 6), .int .i64 (f 7), .int .i64 (f 8), .int .i64 (f 9), .int .i64 (f 10), .int .i64 (f 11), .int .i64 (f 12), .int .i64 (f 13), .int .i64 (f 14), .int .i64 (f 15), .int .i64 (f 16), .int .i64 (f 17), .int .i64 (f 18), .int .i64 (f 19), .int .i64 (f 20), .int .i64 (f 21), .int .i64 (f 22), .int .i64 (f 23)]).formed Try.prog 53 = true := by
  simp [Value.formed, Try.underlying53, cellsOf53]
theorem keyType53 : Try.prog.keyType 53 = true := by kernel_rfl
theorem keyTypeAt53 : Try.prog.keyTypeAt 76 53 = true := by kernel_rfl
theorem eq53 (f : Nat → Int) (hf : ∀ i, i < 24 → (Lit.int .i64 (f i)).wf = true) (w : World) :
    (Op.equalIn 10000 53 (.agg #[.int .i64 (f 0), .int .i64 (f 1), .int .i64 (f 2), .int .i64 (f 3), .int .i64 (f 4), .int .i64 (f 5), .int .i64 (f 6), .int .i64 (f 7), .int .i64 (f 8), .int .i64 (f 9), .int .i64 (f 10), .int .i64 (f 11), .int .i64 (f 12), .int .i64 (f 13), .int .i64 (f 14), .int .i64 (f 15), .int .i64 (f 16), .int .i64 (f 17), .int .i64 (f 18), .int .i64 (f 19), .int .i64 (f 20), .int .i64 (f 21), .int .i64 (f 22), .int .i64 (f 23)]) (.agg #[.int .i64 (f 0), .int .i64 (f 1), .int .i64 (f 2), .int .i64 (f 3), .int .i64 (f 4), .int .i64 (f 5), .int .i64 (f 6), .int .i64 (f 7), .int .i64 (f 8), .int .i64 (f 9), .int .i64 (f 10), .int .i64 (f 11), .int .i64 (f 12), .int .i64 (f 13), .int .i64 (f 14), .int .i64 (f 15), .int .i64 (f 16), .int .i64 (f 17), .int .i64 (f 18), .int .i64 (f 19), .int .i64 (f 20), .int .i64 (f 21), .int .i64 (f 22), .int .i64 (f 23)])).run Try.prog w = .ok true w := by
  have hk : keyOf Try.prog 53 (.agg #[.int .i64 (f 0), .int .i64 (f 1), .int .i64 (f 2), .int .i64 (f 3), .int .i64 (f 4), .int .i64 (f 5), .int .i64 (f 6), .int .i64 (f 7), .int .i64 (f 8), .int .i64 (f 9), .int .i64 (f 10), .int .i64 (f 11), .int .i64 (f 12), .int .i64 (f 13), .int .i64 (f 14), .int .i64 (f 15), .int .i64 (f 16), .int .i64 (f 17), .int .i64 (f 18), .int .i64 (f 19), .int .i64 (f 20), .int .i64 (f 21), .int .i64 (f 22), .int .i64 (f 23)]) = some (.string (keyBytes [.int .i64 (f 0), .int .i64 (f 1), .int .i64 (f 2), .int .i64 (f 3), .int .i64 (f 4), .int .i64 (f 5), .int .i64 (f 6), .int .i64 (f 7), .int .i64 (f 8), .int .i64 (f 9), .int .i64 (f 10), .int .i64 (f 11), .int .i64 (f 12), .int .i64 (f 13), .int .i64 (f 14), .int .i64 (f 15), .int .i64 (f 16), .int .i64 (f 17), .int .i64 (f 18), .int .i64 (f 19), .int .i64 (f 20), .int .i64 (f 21), .int .i64 (f 22), .int .i64 (f 23)])) := by
    simp only [keyOf, Try.underlying53, keyType53, planes_formed, Bool.and_self, if_true, types, Value.cells]
    rw [planes_lits 72 f hf]
    rfl
  obtain ⟨r, hr, hi⟩ := run_equal_deep w (m := 76) (by omega) keyTypeAt53 (by rw [Try.underlying53]) hk hk
  rw [show r = true from hi.2 rfl] at hr
  exact hr

theorem wpPlan_by {P : Program} {ops : Array Oper} {Q : Exit → Act → World → Prop} {S : World → Prop} {i : Nat} {o : Oper} {v : Value} {r : List (Nat × Bool)} {a : Act} {w : World} (ho : ops[i]? = some o)
    (hy : YieldsIf P ops S o v a) (h : wpPlan P ops Q S r (a.put o.dst v) w) : wpPlan P ops Q S ((i, true) :: r) a w := ⟨o, v, ho, hy, h⟩
theorem info53 : (Try.prog.info? 53).map (·.size) = some 24 := by kernel_rfl

/-- The cells of planes that lie somewhere, as one list. -/
theorem planes_at {w : World} {b o : Nat} (f : Nat → Int) (h : ∀ x, x < 24 → w.cell? ⟨b, o + x, none⟩ = some (.int .i64 (f x)) ∧ (Lit.int .i64 (f x)).wf = true) :
    ∃ cs : List Value, (Try.prog.info? 53).map (·.size) = some cs.length ∧ w.rangeAt b o cs ∧ ∀ w', (Op.equalIn 10000 53 (.agg cs.toArray) (.agg cs.toArray)).run Try.prog w' = .ok true w' := by
  refine ⟨(List.range 24).map (fun x => .int .i64 (f x)), by rw [info53]; simp, ?_, ?_⟩
  · intro j v hj
    simp only [List.getElem?_map, Option.map_eq_some_iff] at hj
    obtain ⟨x, hx, rfl⟩ := hj
    obtain ⟨hlt, hx⟩ := List.getElem?_eq_some_iff.1 hx
    simp at hlt hx
    subst hx
    exact (h j hlt).1
  · intro w'
    have := eq53 f (fun x hx => (h x hx).2) w'
    exact this
end Go.Proofs.Ytiemcbeeehbhjaa
