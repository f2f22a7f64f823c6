/- ReplayTells: for every trace, every keys, opened words and masks, and every row of places the law returns true, and each argument reads behind the call as it read before. Conditions: none. -/
import Derived.Test.YtdlmijcnjjdbbaaTl
import Derived.Test.YtdlmijcnjjdbbaaOn
namespace Go.Proofs.Ytdlmijcnjjdbbaa
open Go Go.RowKit Go.ChangeShapes Go.WideShapes Go.ChangeAt Go.Deep Go.Joins

theorem own : ownKnob Try.prog.godebug = none := by kernel_rfl
theorem laidOut : laidOutB Try.prog = true := by kernel_rfl

set_option maxRecDepth 100000 in
set_option maxHeartbeats 2000000 in
theorem tells_lifted (os : Os) (started : os.Started) (H : Type) (enc : TypeId × Value → H) :
    ReturnsInHanded {} Try.checked os 3 .any (Rows.replayTellsSpec.pre6 enc Try.prog Try.f3 Rows.replayTellsRow.domain false) (Rows.replayTellsSpec.post enc Try.prog Try.f3 false true false false) := by
  refine returnsInHanded_of_change_sized (C := Try.checked) own started (by kernel_rfl) Try.func3
    (ChangeSpec.witness6 (enc := enc) (C := Try.checked) false ⟨#[], #[.agg #[.int .i64 0, .slice none 0 0, .slice none 0 0], .agg #[.slice none 0 0, .slice none 0 0, .slice none 0 0], .slice none 0 0], []⟩ 8 (by kernel_rfl) (by kernel_rfl) (by kernel_rfl) (by kernel_rfl)) ?_
  intro W base args ds gs before hval0 hW hcnd hsz0 _
  have hval : ∀ (j : Nat) t v, Try.f3.params[j]? = some t → args[j]? = some v → Value.okWide Try.prog W .any base t v := hval0
  have hW' := hW
  obtain ⟨p, q, hA0, hV, rfl, hfz, hnd⟩ := hW
  have hA : DataW.TrodAll enc Try.prog W 0 (fun _ => true) true Try.f3.params.toList args.toList ds p := hA0
  rw [Try.params3] at hA hval
  obtain ⟨v0, vs0, d0, ds0, p0, q0, hargs, rfl, rfl, h0, r0⟩ := trodAll_cons hA
  obtain ⟨v1, vs1, d1, ds1, p1, q1, rfl, rfl, rfl, h1, r1⟩ := trodAll_cons r0
  obtain ⟨v2, vs2, d2, ds2, p2, q2, rfl, rfl, rfl, h2, r2⟩ := trodAll_cons r1
  obtain ⟨rfl, rfl, rfl⟩ := trodAll_nil r2
  obtain rfl : args = #[v0, v1, v2] := by cases args; simp_all
  obtain ⟨rfl, rfl⟩ := trodVars_none hV
  have k0 := h0
  have lt0 : ∀ x ∈ p0, x.block < W.heap.size := by obtain ⟨m, hm⟩ := k0; exact DataW.trod_lt m _ _ _ hm
  have k1 := h1
  have lt1 : ∀ x ∈ p1, x.block < W.heap.size := by obtain ⟨m, hm⟩ := k1; exact DataW.trod_lt m _ _ _ hm
  have k2 := h2
  have lt2 : ∀ x ∈ p2, x.block < W.heap.size := by obtain ⟨m, hm⟩ := k2; exact DataW.trod_lt m _ _ _ hm
  obtain ⟨a0, a1, a2, y0, y1, y2, n0, rfl, rfl, rfl, g0, g1, g2⟩ := open_agg3 Try.underlying25 (by kernel_rfl) (by kernel_rfl) (hval 0 25 _ rfl rfl) h0
  obtain ⟨b0, b1, b2, z0, z1, z2, n1, rfl, rfl, rfl, e0, e1, e2⟩ := open_agg3 Try.underlying28 (by kernel_rfl) (by kernel_rfl) (hval 1 28 _ rfl rfl) h1
  obtain ⟨nn, hn, _, wn⟩ := DataW.trod_int Try.underlying3 g0
  simp at hn
  subst hn
  obtain ⟨oa, oc, ops, rfl, hops, hwf, hol, hoc⟩ := ops_of g1
  obtain ⟨ba, bc, l, rfl, hsp, hswf, hbl, hbc⟩ := spans_of g2
  obtain ⟨ka, kcap, K, rfl, hK, hkl, hkc⟩ := words_of e0
  obtain ⟨pa, pc, O, rfl, hO, hpl, hpc⟩ := words_of e1
  obtain ⟨ma, mc, M, rfl, hM, hml, hmc⟩ := words_of e2
  obtain ⟨aa2, len2, cap2, rfl⟩ := okWide_slice Try.underlying29 (hval 2 29 v2 rfl rfl)
  obtain ⟨f2, hf2⟩ := h2
  obtain ⟨ta, tc, ts, hts, hI, _, htl, htc, hd⟩ := ints_of hf2
  obtain ⟨rfl, rfl, rfl⟩ : aa2 = ta ∧ len2 = ts.length ∧ cap2 = tc := by simpa using hts
  have hreach : ts.length * 8 ≤ 140737488351232 := by
    rcases hd with hd | ⟨el, sp, hd, hle⟩
    · have hd' : d2 = _ := hd
      subst hd'
      rcases open_slice Try.underlying29 hf2 with h0 | ⟨a, len, cap, m, n, D, Pl, hcs, _, _, _, _, hx, _⟩
      · have h01 := h0.1
        simp [Value.cells] at h01
        rw [h01.2.1]; simp
      · simp at hx
    · have hd' : d2 = _ := hd
      subst hd'
      have := sized_slice hsz0 (j := 2) (t := 29) (e := 3) (by rw [Try.params3]; rfl) rfl Try.underlying29
      rw [show Try.checked.prog.bytesOf 3 = 8 by kernel_rfl] at this
      simp only [reachBytes] at this
      omega
  clear hA0 hval0 hsz0 hd
  refine (tells_any nn oa oc ops ba bc l K O M ka kcap pa pc ma mc ts _ _ W ⟨hops, hsp, Nat.le_trans hol hoc, Nat.le_trans hbl hbc⟩ hwf hK hO hM hkl hkc hpl hpc hml hmc hreach hI).mono fun e W' ⟨he, bel⟩ => ?_
  subst he
  refine ⟨_, rfl, _, _, _, [], _, [], hW', trodAll_mk1 (shut_bool Try.underlying4 _),
    (trodAll_cons_mk (Below.trod laidOut (by kernel_rfl) (of_decide_eq_true (by kernel_rfl)) k0 bel lt0) (trodAll_cons_mk (Below.trod laidOut (by kernel_rfl) (of_decide_eq_true (by kernel_rfl)) k1 bel lt1) (trodAll_cons_mk (Below.trod laidOut (by kernel_rfl) (of_decide_eq_true (by kernel_rfl)) k2 bel lt2) trodAll_mk0))), rfl, bel.frame _, fun h => by cases h⟩
theorem ReplayTells_holds : Rows.ReplayTellsSaid :=
  OpenClaim.holds_of_wide 3 Try.f3 rfl rfl rfl rfl rfl rfl rfl ⟨rfl, rfl, rfl, rfl, rfl⟩ rfl rfl rfl rfl rfl (by kernel_rfl) Try.func3 (by kernel_rfl)
    (of_decide_eq_true (by kernel_rfl)) (by unfold Func.isWrapper; first | (rw [if_pos (by decide +kernel)]; kernel_rfl) | (rw [if_neg (by decide +kernel)]; exact ⟨rfl, rfl⟩))
    (fun os started H enc _ => tells_lifted os started H enc)
#print axioms ReplayTells_holds
end Go.Proofs.Ytdlmijcnjjdbbaa
