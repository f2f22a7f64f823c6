/- SlotsKeep: the walk. -/
import Derived.Test.YtiemcbeeehbhjaaC
import Derived.Test.YtiemcbeeehbhjaaH
namespace Go.Proofs.Ytiemcbeeehbhjaa
open Go.RowKit Go.Maps

/-- What is told of one key that was put, and dropped. -/
structure KeepFacts (at' kind : Int) (V : Value) (D1 D2 : DataW Value) : Prop where
  put : putB (.map []) at' kind = true
  free : freeB D1 at' = false
  size : (Maps.size D1 : Int) = 1
  getE : getE D1 at' kind = 0
  getV : getV D1 at' kind = V
  other : ∀ k, k ≠ kind → Ytiemcbeeehbhjaa.getE D1 at' k = 7
  place : ∀ k : Int, (Ytiemcbeeehbhjaa.getE D1 k kind == 0) = (k == at')
  again : putB D1 at' 1 = false
  drop : dropE D1 at' = 0
  free2 : freeB D2 at' = true
  size2 : (Maps.size D2 : Int) = 0
  get2 : Ytiemcbeeehbhjaa.getE D2 at' kind = 7

theorem keep_facts (at' kind : Int) (s : Int) (a : Option Addr) (l c : Nat) (a' : Option Addr) (l' c' : Nat) (h0 : 0 ≤ at') (h4 : at' < 4) (hk : kind = 1 ∨ kind = 2) :
    KeepFacts at' kind (slotV kind s a l c a' l' c') ((DataW.map []).put (.int .i64 at') (.held (slotV kind s a l c a' l' c'))) (((DataW.map []).put (.int .i64 at') (.held (slotV kind s a l c a' l' c'))).del (.int .i64 at')) := by
  have e0 : rputE (fun _ => 0) at' kind = 0 := by unfold rputE; rcases hk with rfl | rfl <;> simp [h0, h4]
  have hA1 := Agree.empty.putted (i := at') (k := kind) (s := s) (a := a) (l := l) (c := c) (a' := a') (l' := l') (c' := c') e0
  obtain ⟨j, rfl⟩ : ∃ j : Nat, at' = j := ⟨at'.toNat, by omega⟩
  have hj : j < 4 := by omega
  have hkn : kind ≠ 0 := by omega
  have hK : upd (fun _ => 0) (j : Int) kind j = kind := by simp [upd]
  have hKo : ∀ m : Nat, m ≠ j → upd (fun _ => 0) (j : Int) kind m = 0 := fun m hm => by unfold upd; rw [if_neg (by omega)]
  have ed : rdropE (upd (fun _ => 0) (j : Int) kind) j = 0 := by unfold rdropE; simp [hK, hkn, h0, h4]
  have hA2 := hA1.dropped ed
  have hg : Ytiemcbeeehbhjaa.getE ((DataW.map []).put (.int .i64 (j : Int)) (.held (slotV kind s a l c a' l' c'))) j kind = 0 := by
    rw [hA1.get]; unfold rgetE; simp [hK, hkn, h4]
  refine ⟨?_, ?_, ?_, hg, ?_, ?_, ?_, ?_, ?_, ?_, ?_, ?_⟩
  · rw [Agree.empty.put, e0]; rfl
  · rw [hA1.free]; simp [hK, hkn]
  · rw [hA1.size, cnt_upd _ j kind hkn rfl 4, if_pos hj]; decide
  · unfold getV; rw [if_pos hg, slotAt_put_same ⟨[], rfl⟩]
  · intro k hkk
    rw [hA1.get]; unfold rgetE; simp [hK, hkn, h4, Ne.symm hkk]
  · intro k
    rw [hA1.get]
    by_cases e : k = j
    · subst e; unfold rgetE; simp [hK, hkn, h4]
    · have e1 : (k == (j : Int)) = false := by simpa using e
      rw [e1]
      unfold rgetE
      by_cases hi : 0 ≤ k ∧ k < 4
      · have : upd (fun _ => 0) (j : Int) kind k.toNat = 0 := hKo _ (by omega)
        simp [hi, this]
      · simp [hi]
  · rw [hA1.put]; unfold rputE; simp [hK, hkn]
  · rw [hA1.drop]; exact ed
  · rw [hA2.free]; simp [upd, h4]
  · rw [hA2.size]
    have := cnt_zero (upd (fun _ => 0) (j : Int) kind) j (by rw [hK]; exact hkn) 4
    rw [if_pos hj, cnt_upd _ j kind hkn rfl 4, if_pos hj] at this
    have e : cnt (fun _ => 0) 4 = 0 := by decide
    rw [e] at this
    omega
  · rw [hA2.get]; unfold rgetE; simp [upd, h4]

/-- What the world bears while the keys and words are compared. -/
structure KeepSt (w : World) (kind size : Int) (ka : Option Addr) (kl kc : Nat) (wa : Option Addr) (wl wc : Nat) (bx : Nat) (D : DataW Value) (n : Nat) (wr : World) : Prop where
  c : wr.cell? ⟨w.heap.size + 1, 0, none⟩ = some (.map (some w.heap.size))
  own : wr.ownsMap Try.prog 3 RV w.heap.size n D
  below : Below w.heap.size w wr
  x0 : wr.cell? ⟨bx, 0, none⟩ = some (.int .i64 kind)
  x1 : wr.cell? ⟨bx, 1, none⟩ = some (.int .i64 size)
  x2 : wr.cell? ⟨bx, 2, none⟩ = some (.slice ka kl kc)
  x3 : wr.cell? ⟨bx, 3, none⟩ = some (.slice wa wl wc)

theorem keep_x {w w4 : World} {kind size : Int} {ka : Option Addr} {kl kc : Nat} {wa : Option Addr} {wl wc : Nat} {D : DataW Value} {n : Nat} (hB : Below w.heap.size w w4) (c : w4.cell? ⟨w.heap.size + 1, 0, none⟩ = some (.map (some w.heap.size)))
    (own : w4.ownsMap Try.prog 3 RV w.heap.size n D) : KeepSt w kind size ka kl kc wa wl wc w4.heap.size D n (w4.alloc (.cells #[.int .i64 kind, .int .i64 size, .slice ka kl kc, .slice wa wl wc] 27)) :=
  ⟨cell_al _ c, own.alloc _, hB.alloc hB.size _, World.cell?_alloc_mark _ _ _ _ _, World.cell?_alloc_mark _ _ _ _ _, World.cell?_alloc_mark _ _ _ _ _, World.cell?_alloc_mark _ _ _ _ _⟩
theorem KeepSt.below' {w wr wr' : World} {kind size : Int} {ka : Option Addr} {kl kc : Nat} {wa : Option Addr} {wl wc : Nat} {bx : Nat} {D : DataW Value} {n : Nat} (h : KeepSt w kind size ka kl kc wa wl wc bx D n wr) (hb : Below wr.heap.size wr wr') :
    KeepSt w kind size ka kl kc wa wl wc bx D n wr' :=
  have hx := World.block_lt_of_cell? _ _ h.x0
  ⟨(hb.cell (World.block_lt_of_cell? _ _ h.c)).trans h.c, h.own.below hb h.own.lt, h.below.trans (hb.mono h.below.size), (hb.cell (p := ⟨bx, 0, none⟩) hx).trans h.x0, (hb.cell (p := ⟨bx, 1, none⟩) hx).trans h.x1, (hb.cell (p := ⟨bx, 2, none⟩) hx).trans h.x2, (hb.cell (p := ⟨bx, 3, none⟩) hx).trans h.x3⟩
theorem KeepSt.drewN {w wr : World} {kind size : Int} {ka : Option Addr} {kl kc : Nat} {wa : Option Addr} {wl wc : Nat} {bx : Nat} {D : DataW Value} {n : Nat} (h : KeepSt w kind size ka kl kc wa wl wc bx D n wr) (m : Nat) :
    KeepSt w kind size ka kl kc wa wl wc bx D n (wr.drewN m) := h.below' ⟨rfl, rfl, rfl, Nat.le_refl _, fun _ _ => rfl⟩
theorem KeepSt.alloc {w wr : World} {kind size : Int} {ka : Option Addr} {kl kc : Nat} {wa : Option Addr} {wl wc : Nat} {bx : Nat} {D : DataW Value} {n : Nat} (h : KeepSt w kind size ka kl kc wa wl wc bx D n wr) (o : Obj) :
    KeepSt w kind size ka kl kc wa wl wc bx D n (wr.alloc o) := h.below' ((Below.refl _ _).alloc (Nat.le_refl _) _)

set_option maxRecDepth 100000 in
set_option maxHeartbeats 8000000 in
theorem keep_walk_false (i : Int) (size : Int) (ka : Option Addr) (kl kc : Nat) (wa : Option Addr) (wl wc : Nat) (k : Int) (gk gw : Nat → Nat → Int) (w : World)
    (hi0 : 0 ≤ i) (hi1 : i ≤ 255) (hwk : (Lit.int .i64 k).wf = true) (hkl : kl ≤ maxLen) (hwl : wl ≤ maxLen)
    (hka : 0 < kl → ∃ b off, ka = some ⟨b, off, none⟩ ∧ ∀ i j, i < kl → j < 24 → w.cell? ⟨b, off + i * 24 + j, none⟩ = some (.int .i64 (gk i j)) ∧ (Lit.int .i64 (gk i j)).wf = true)
    (hwa : 0 < wl → ∃ b off, wa = some ⟨b, off, none⟩ ∧ ∀ i j, i < wl → j < 3 → w.cell? ⟨b, off + i * 3 + j, none⟩ = some (.int .i64 (gw i j)) ∧ (Lit.int .i64 (gw i j)).wf = true) :
    Calls Try.prog 4 #[.int .u8 i, .bool false, .int .i64 size, .slice ka kl kc, .slice wa wl wc, .int .i64 k] w fun e w' => e = .returned (.bool true) ∧ Below w.heap.size w w' := by
  unfold maxLen at hkl hwl
  have hm0 : 0 ≤ i % 4 := by omega
  have hm4 : i % 4 < 4 := by omega
  have hwi : (Lit.int .i64 (i % 4)).wf = true := WalkArith.wf_i64 (by omega)
  have HK := Lib.hid hka; have HW := Lib.hid hwa
  clear hka hwa
  have e1 := World.cell?_alloc_mark (w.alloc (.map #[] 0)) #[.map (some w.heap.size)] 58 (0, 0) 0
  rw [World.size_alloc] at e1
  have c1 : ((w.alloc (Obj.map #[] 0)).alloc (Obj.cells #[Value.map (some w.heap.size)] 58)).cell? ⟨w.heap.size + 1, 0, none⟩ = some (.map (some w.heap.size)) := e1
  have own1 := (World.ownsMap_made w Try.prog 3 RV).alloc (Obj.cells #[Value.map (some w.heap.size)] 58)
  have hB1 : Below w.heap.size w ((w.alloc (Obj.map #[] 0)).alloc (Obj.cells #[Value.map (some w.heap.size)] 58)) := ((Below.refl _ w).alloc (Nat.le_refl _) _).alloc (by go_size) _
  clear e1
  obtain ⟨D1, D2, HD1, HD2, F⟩ : ∃ D1 D2, Hid ((DataW.map []).put (.int .i64 (i % 4)) (.held (slotV 1 size ka kl kc wa wl wc)) = D1) ∧ Hid (D1.del (.int .i64 (i % 4)) = D2) ∧ Hid (KeepFacts (i % 4) 1 (slotV 1 size ka kl kc wa wl wc) D1 D2) :=
      ⟨_, _, Lib.hid rfl, Lib.hid rfl, Lib.hid (keep_facts (i % 4) 1 size ka kl kc wa wl wc hm0 hm4 (by decide))⟩
  go_enter Try.func4, Try.ntmps4
  go_wp2_with fail
  refine (new_any _).mono ?_
  rintro e w1 ⟨rfl, rfl⟩
  go_wp2_with fail
  refine (put_any (bm := w.heap.size) (n := 0) (.map []) (i % 4) 1 size ka kl kc wa wl wc _ (by exact c1) (by exact own1) (by decide) hwi (by decide)).mono ?_
  rintro e w2 ⟨he, own2, hg2⟩
  rw [F.out.put] at he own2
  simp only [if_true] at he own2
  subst he
  rw [HD1.out] at own2
  have c2 := hg2.cell c1 (show some (w.heap.size + 1) ≠ some w.heap.size by simp)
  have hB2 : Below w.heap.size w w2 := hB1.grown hg2 hB1.size (fun j h => by have := Option.some.inj h; omega)
  clear own1 c1 hg2
  go_wp2_with fail
  refine (free_any D1 (i % 4) _ c2 own2 hwi).mono ?_
  rintro e w3 ⟨he, hb3⟩
  rw [F.out.free] at he
  subst he
  have c3 := (hb3.cell (p := ⟨w.heap.size + 1, 0, none⟩) (World.block_lt_of_cell? _ _ c2)).trans c2
  have own3 := own2.below hb3 own2.lt
  have hB3 := hB2.trans (hb3.mono hB2.size)
  clear own2 c2 hb3
  go_wp2_with fail
  refine (count_any D1 _ c3 own3).mono ?_
  rintro e w4 ⟨he, rfl⟩
  rw [F.out.size] at he
  subst he
  go_wp2_with fail
  refine (get_any D1 (i % 4) 1 _ c3 own3 hwi).mono ?_
  rintro e w4 ⟨k0, s0, a0, l0, m0, a1, l1, m1, he, hgv, hb4⟩
  rw [F.out.getE] at he
  rw [F.out.getV] at hgv
  simp only [slotV, Value.agg.injEq, Array.mk.injEq, List.cons.injEq, Value.int.injEq, Value.slice.injEq, and_true, true_and] at hgv
  obtain ⟨rfl, rfl, ⟨rfl, rfl, rfl⟩, rfl, rfl, rfl⟩ := hgv
  subst he
  have hB4 := hB3.trans (hb4.mono hB3.size)
  have hX := keep_x hB4 ((hb4.cell (p := ⟨w.heap.size + 1, 0, none⟩) (World.block_lt_of_cell? _ _ c3)).trans c3) (own3.below hb4 own3.lt) (kind := 1) (size := size) (ka := ka) (kl := kl) (kc := kc) (wa := wa) (wl := wl) (wc := wc)
  clear own3 c3 hb4 hB4
  go_wp2_with fail
  refine (get_any D1 (i % 4) 2 _ hX.c hX.own hwi).mono ?_
  rintro e w5 ⟨k0, s0, a0, l0, m0, a1, l1, m1, he, hgv, hb5⟩
  rw [F.out.other _ (by decide)] at he
  subst he
  have hX5 := (hX.below' hb5).alloc (.cells #[.int .i64 k0, .int .i64 s0, .slice a0 l0 m0, .slice a1 l1 m1] 27)
  clear hX hb5 hgv
  go_wp2_with fail
  refine (get_any D1 k 1 _ hX5.c hX5.own hwk).mono ?_
  rintro e w6 ⟨k2, s2, a2, l2, m2, a3, l3, m3, rfl, hgv, hb6⟩
  have hpl := F.out.place k
  have hX6 := (hX5.below' hb6).alloc (.cells #[.int .i64 k2, .int .i64 s2, .slice a2 l2 m2, .slice a3 l3 m3] 27)
  clear hX5 hb6 hgv
  have x1 := hX6.x1; have x2 := hX6.x2; have x3 := hX6.x3
  go_wp2_with fail
  clear x1 x2 x3 hpl
  generalize w4.heap.size = bx at *
  go_loopw [22] (fun jv wr => ∃ j : Nat, j ≤ kl ∧ jv = .int .i64 j ∧ KeepSt w 1 size ka kl kc wa wl wc bx D1 (0 + 1) wr) (fun jv _ => kl - (intOf jv).toNat)
  case atStart => exact ⟨0, by omega, rfl, hX6⟩
  case round =>
    obtain ⟨j, hj, rfl, hst⟩ := hrel
    have x2 := hst.x2
    by_cases hlt : j < kl
    · as_aux_lemma =>
      obtain ⟨b, off, hkae, hcell⟩ := HK.out (by omega)
      have hblt : b < w.heap.size := World.block_lt_of_cell? _ _ (hcell j 0 hlt (by omega)).1
      obtain ⟨cs, hinfo, hrg, heq⟩ := planes_at (w := wr) (b := b) (o := off + j * 24) (gk j) (fun x hx => ⟨(hst.below.cell (p := ⟨b, off + j * 24 + x, none⟩) hblt).trans (hcell j x hlt hx).1, (hcell j x hlt hx).2⟩)
      have hb0 : (0 : Int) ≤ (j : Int) := by omega
      have hb1 : (j : Int) < (kl : Int) := by omega
      subst hkae
      clear hcell
      go_wp2
      refine wp_region_plan (fun w' => w'.cell? ⟨bx, 2, none⟩ = some (.slice (some ⟨b, off, none⟩) kl kc) ∧ w'.rangeAt b (off + j * 24) cs) [(0, true), (1, true), (2, true), (3, true), (4, true), (5, true), (6, true), (7, true), (8, true), (9, true)] (by kernel_rfl) (by kernel_rfl) (by kernel_rfl) rfl (fun _ _ d _ _ h => by cases d <;> exact h) ⟨x2, hrg⟩ ?_
      apply wpPlan_yes
      · simp only [List.getElem?_toArray, List.getElem?_cons_succ, List.getElem?_cons_zero]; with_reducible rfl
      · rfl
      · intro w' hS; go_simp; try rfl
      try simp only [Act.put, List.setIfInBounds_toArray, List.set_cons_zero, List.set_cons_succ]
      apply wpPlan_yes
      · simp only [List.getElem?_toArray, List.getElem?_cons_succ, List.getElem?_cons_zero]; with_reducible rfl
      · rfl
      · intro w' hS; go_simp; try rfl
      try simp only [Act.put, List.setIfInBounds_toArray, List.set_cons_zero, List.set_cons_succ]
      apply wpPlan_yes
      · simp only [List.getElem?_toArray, List.getElem?_cons_succ, List.getElem?_cons_zero]; with_reducible rfl
      · rfl
      · intro w' hS; go_simp; try rfl
      try simp only [Act.put, List.setIfInBounds_toArray, List.set_cons_zero, List.set_cons_succ]
      apply wpPlan_yes
      · simp only [List.getElem?_toArray, List.getElem?_cons_succ, List.getElem?_cons_zero]; with_reducible rfl
      · rfl
      · intro w' hS; go_simp; try rfl
      try simp only [Act.put, List.setIfInBounds_toArray, List.set_cons_zero, List.set_cons_succ]
      apply wpPlan_by
      · simp only [List.getElem?_toArray, List.getElem?_cons_succ, List.getElem?_cons_zero]; with_reducible rfl
      · exact yieldsIf_load_mid rfl 53 _ rfl b (off + j * 24) rfl cs _ (fun w' h => h.2) Try.underlying53 rfl hinfo
      try simp only [Act.put, List.setIfInBounds_toArray, List.set_cons_zero, List.set_cons_succ]
      apply wpPlan_yes
      · simp only [List.getElem?_toArray, List.getElem?_cons_succ, List.getElem?_cons_zero]; with_reducible rfl
      · rfl
      · intro w' hS; go_simp; try rfl
      try simp only [Act.put, List.setIfInBounds_toArray, List.set_cons_zero, List.set_cons_succ]
      apply wpPlan_yes
      · simp only [List.getElem?_toArray, List.getElem?_cons_succ, List.getElem?_cons_zero]; with_reducible rfl
      · rfl
      · intro w' hS; go_simp; try rfl
      try simp only [Act.put, List.setIfInBounds_toArray, List.set_cons_zero, List.set_cons_succ]
      apply wpPlan_yes
      · simp only [List.getElem?_toArray, List.getElem?_cons_succ, List.getElem?_cons_zero]; with_reducible rfl
      · rfl
      · intro w' hS; go_simp; try rfl
      try simp only [Act.put, List.setIfInBounds_toArray, List.set_cons_zero, List.set_cons_succ]
      apply wpPlan_by
      · simp only [List.getElem?_toArray, List.getElem?_cons_succ, List.getElem?_cons_zero]; with_reducible rfl
      · exact yieldsIf_load_mid rfl 53 _ rfl b (off + j * 24) rfl cs _ (fun w' h => h.2) Try.underlying53 rfl hinfo
      try simp only [Act.put, List.setIfInBounds_toArray, List.set_cons_zero, List.set_cons_succ]
      apply wpPlan_yes
      · simp only [List.getElem?_toArray, List.getElem?_cons_succ, List.getElem?_cons_zero]; with_reducible rfl
      · rfl
      · intro w' hS; go_simp; try rfl
      try simp only [Act.put, List.setIfInBounds_toArray, List.set_cons_zero, List.set_cons_succ]
      simp only [wpPlan]
      go_wp2
      go_roundw
      case rel => exact ⟨j + 1, by omega, by go_num, hst.drewN 1⟩
      case measure => simp [intOf]; omega
    · as_aux_lemma =>
      clear x2
      obtain ⟨wo, rfl⟩ : ∃ wo : World, wo = wr := ⟨_, rfl⟩
      go_wp2
      go_loopw [23] (fun jv wr => ∃ j : Nat, j ≤ wl ∧ jv = .int .i64 j ∧ KeepSt w 1 size ka kl kc wa wl wc bx D1 (0 + 1) wr) (fun jv _ => wl - (intOf jv).toNat)
      case atStart => exact ⟨0, by omega, rfl, hst⟩
      case round =>
        obtain ⟨j2, hj2, rfl, hst2⟩ := hrel
        have x3 := hst2.x3
        by_cases hlt2 : j2 < wl
        · as_aux_lemma =>
          obtain ⟨b, off, hwae, hcell⟩ := HW.out (by omega)
          have hblt : b < w.heap.size := World.block_lt_of_cell? _ _ (hcell j2 0 hlt2 (by omega)).1
          have q0 := (hst2.below.cell (p := ⟨b, off + j2 * 3 + 0, none⟩) hblt).trans (hcell j2 0 hlt2 (by omega)).1
          have q1 := (hst2.below.cell (p := ⟨b, off + j2 * 3 + 1, none⟩) hblt).trans (hcell j2 1 hlt2 (by omega)).1
          have q2 := (hst2.below.cell (p := ⟨b, off + j2 * 3 + 2, none⟩) hblt).trans (hcell j2 2 hlt2 (by omega)).1
          simp only [Nat.add_zero] at q0
          have hb0 : (0 : Int) ≤ (j2 : Int) := by omega
          have hb1 : (j2 : Int) < (wl : Int) := by omega
          have heq := eq51 (hcell j2 0 hlt2 (by omega)).2 (hcell j2 1 hlt2 (by omega)).2 (hcell j2 2 hlt2 (by omega)).2
          subst hwae
          clear hcell
          go_wp2
          go_quiet (fail)
          go_wp2
          go_roundw
          case rel => exact ⟨j2 + 1, by omega, by go_num, hst2.drewN _⟩
          case measure => simp [intOf]; omega
        · as_aux_lemma =>
          clear x3
          go_wp2_with fail
          refine (put_any D1 (i % 4) 1 0 none 0 0 none 0 0 _ hst2.c hst2.own (by decide) hwi (by decide)).mono ?_
          rintro e w7 ⟨he, own7, hg7⟩
          rw [F.out.again] at he own7
          simp only [Bool.false_eq_true, if_false] at he own7
          subst he
          have c7 := hg7.cell hst2.c (show some (w.heap.size + 1) ≠ some w.heap.size by simp)
          have hB7 : Below w.heap.size w w7 := hst2.below.grown hg7 hst2.below.size (fun j h => by have := Option.some.inj h; omega)
          clear hst2 hg7 hst hX6
          go_wp2_with fail
          refine (drop_any D1 (i % 4) _ c7 own7 hwi).mono ?_
          rintro e w8 ⟨he, own8, hg8⟩
          rw [F.out.drop] at he own8
          simp only [if_true] at own8
          subst he
          rw [HD2.out] at own8
          have c8 := hg8.cell c7 (show some (w.heap.size + 1) ≠ some w.heap.size by simp)
          have hB8 : Below w.heap.size w w8 := hB7.grown hg8 hB7.size (fun j h => by have := Option.some.inj h; omega)
          clear own7 c7 hg8 hB7
          go_wp2_with fail
          refine (free_any D2 (i % 4) _ c8 own8 hwi).mono ?_
          rintro e w9 ⟨he, hb9⟩
          rw [F.out.free2] at he
          subst he
          have c9 := (hb9.cell (p := ⟨w.heap.size + 1, 0, none⟩) (World.block_lt_of_cell? _ _ c8)).trans c8
          have own9 := own8.below hb9 own8.lt
          have hB9 := hB8.trans (hb9.mono hB8.size)
          clear own8 c8 hb9 hB8
          go_wp2_with fail
          refine (count_any D2 _ c9 own9).mono ?_
          rintro e w10 ⟨he, rfl⟩
          rw [F.out.size2] at he
          subst he
          go_wp2_with fail
          refine (get_any D2 (i % 4) 1 _ c9 own9 hwi).mono ?_
          rintro e w11 ⟨k0, s0, a0, l0, m0, a1, l1, m1, he, _, hb11⟩
          rw [F.out.get2] at he
          subst he
          have hB11 := hB9.trans (hb11.mono hB9.size)
          clear own9 c9 hb11 hB9
          go_wp2_with fail
          refine (awake_any _).mono ?_
          rintro e w12 ⟨rfl, hb12⟩
          go_wp2_with fail
          go_returns
          exact ⟨rfl, (hB11.alloc hB11.size _).trans (hb12.mono (by rw [World.size_alloc]; exact Nat.le_succ_of_le hB11.size))⟩
set_option maxRecDepth 100000 in
set_option maxHeartbeats 8000000 in
theorem keep_walk_true (i : Int) (size : Int) (ka : Option Addr) (kl kc : Nat) (wa : Option Addr) (wl wc : Nat) (k : Int) (gk gw : Nat → Nat → Int) (w : World)
    (hi0 : 0 ≤ i) (hi1 : i ≤ 255) (hwk : (Lit.int .i64 k).wf = true) (hkl : kl ≤ maxLen) (hwl : wl ≤ maxLen)
    (hka : 0 < kl → ∃ b off, ka = some ⟨b, off, none⟩ ∧ ∀ i j, i < kl → j < 24 → w.cell? ⟨b, off + i * 24 + j, none⟩ = some (.int .i64 (gk i j)) ∧ (Lit.int .i64 (gk i j)).wf = true)
    (hwa : 0 < wl → ∃ b off, wa = some ⟨b, off, none⟩ ∧ ∀ i j, i < wl → j < 3 → w.cell? ⟨b, off + i * 3 + j, none⟩ = some (.int .i64 (gw i j)) ∧ (Lit.int .i64 (gw i j)).wf = true) :
    Calls Try.prog 4 #[.int .u8 i, .bool true, .int .i64 size, .slice ka kl kc, .slice wa wl wc, .int .i64 k] w fun e w' => e = .returned (.bool true) ∧ Below w.heap.size w w' := by
  unfold maxLen at hkl hwl
  have hm0 : 0 ≤ i % 4 := by omega
  have hm4 : i % 4 < 4 := by omega
  have hwi : (Lit.int .i64 (i % 4)).wf = true := WalkArith.wf_i64 (by omega)
  have HK := Lib.hid hka; have HW := Lib.hid hwa
  clear hka hwa
  have e1 := World.cell?_alloc_mark (w.alloc (.map #[] 0)) #[.map (some w.heap.size)] 58 (0, 0) 0
  rw [World.size_alloc] at e1
  have c1 : ((w.alloc (Obj.map #[] 0)).alloc (Obj.cells #[Value.map (some w.heap.size)] 58)).cell? ⟨w.heap.size + 1, 0, none⟩ = some (.map (some w.heap.size)) := e1
  have own1 := (World.ownsMap_made w Try.prog 3 RV).alloc (Obj.cells #[Value.map (some w.heap.size)] 58)
  have hB1 : Below w.heap.size w ((w.alloc (Obj.map #[] 0)).alloc (Obj.cells #[Value.map (some w.heap.size)] 58)) := ((Below.refl _ w).alloc (Nat.le_refl _) _).alloc (by go_size) _
  clear e1
  obtain ⟨D1, D2, HD1, HD2, F⟩ : ∃ D1 D2, Hid ((DataW.map []).put (.int .i64 (i % 4)) (.held (slotV 2 size ka kl kc wa wl wc)) = D1) ∧ Hid (D1.del (.int .i64 (i % 4)) = D2) ∧ Hid (KeepFacts (i % 4) 2 (slotV 2 size ka kl kc wa wl wc) D1 D2) :=
      ⟨_, _, Lib.hid rfl, Lib.hid rfl, Lib.hid (keep_facts (i % 4) 2 size ka kl kc wa wl wc hm0 hm4 (by decide))⟩
  go_enter Try.func4, Try.ntmps4
  go_wp2_with fail
  refine (new_any _).mono ?_
  rintro e w1 ⟨rfl, rfl⟩
  go_wp2_with fail
  refine (put_any (bm := w.heap.size) (n := 0) (.map []) (i % 4) 2 size ka kl kc wa wl wc _ (by exact c1) (by exact own1) (by decide) hwi (by decide)).mono ?_
  rintro e w2 ⟨he, own2, hg2⟩
  rw [F.out.put] at he own2
  simp only [if_true] at he own2
  subst he
  rw [HD1.out] at own2
  have c2 := hg2.cell c1 (show some (w.heap.size + 1) ≠ some w.heap.size by simp)
  have hB2 : Below w.heap.size w w2 := hB1.grown hg2 hB1.size (fun j h => by have := Option.some.inj h; omega)
  clear own1 c1 hg2
  go_wp2_with fail
  refine (free_any D1 (i % 4) _ c2 own2 hwi).mono ?_
  rintro e w3 ⟨he, hb3⟩
  rw [F.out.free] at he
  subst he
  have c3 := (hb3.cell (p := ⟨w.heap.size + 1, 0, none⟩) (World.block_lt_of_cell? _ _ c2)).trans c2
  have own3 := own2.below hb3 own2.lt
  have hB3 := hB2.trans (hb3.mono hB2.size)
  clear own2 c2 hb3
  go_wp2_with fail
  refine (count_any D1 _ c3 own3).mono ?_
  rintro e w4 ⟨he, rfl⟩
  rw [F.out.size] at he
  subst he
  go_wp2_with fail
  refine (get_any D1 (i % 4) 2 _ c3 own3 hwi).mono ?_
  rintro e w4 ⟨k0, s0, a0, l0, m0, a1, l1, m1, he, hgv, hb4⟩
  rw [F.out.getE] at he
  rw [F.out.getV] at hgv
  simp only [slotV, Value.agg.injEq, Array.mk.injEq, List.cons.injEq, Value.int.injEq, Value.slice.injEq, and_true, true_and] at hgv
  obtain ⟨rfl, rfl, ⟨rfl, rfl, rfl⟩, rfl, rfl, rfl⟩ := hgv
  subst he
  have hB4 := hB3.trans (hb4.mono hB3.size)
  have hX := keep_x hB4 ((hb4.cell (p := ⟨w.heap.size + 1, 0, none⟩) (World.block_lt_of_cell? _ _ c3)).trans c3) (own3.below hb4 own3.lt) (kind := 2) (size := size) (ka := ka) (kl := kl) (kc := kc) (wa := wa) (wl := wl) (wc := wc)
  clear own3 c3 hb4 hB4
  go_wp2_with fail
  refine (get_any D1 (i % 4) 1 _ hX.c hX.own hwi).mono ?_
  rintro e w5 ⟨k0, s0, a0, l0, m0, a1, l1, m1, he, hgv, hb5⟩
  rw [F.out.other _ (by decide)] at he
  subst he
  have hX5 := (hX.below' hb5).alloc (.cells #[.int .i64 k0, .int .i64 s0, .slice a0 l0 m0, .slice a1 l1 m1] 27)
  clear hX hb5 hgv
  go_wp2_with fail
  refine (get_any D1 k 2 _ hX5.c hX5.own hwk).mono ?_
  rintro e w6 ⟨k2, s2, a2, l2, m2, a3, l3, m3, rfl, hgv, hb6⟩
  have hpl := F.out.place k
  have hX6 := (hX5.below' hb6).alloc (.cells #[.int .i64 k2, .int .i64 s2, .slice a2 l2 m2, .slice a3 l3 m3] 27)
  clear hX5 hb6 hgv
  have x1 := hX6.x1; have x2 := hX6.x2; have x3 := hX6.x3
  go_wp2_with fail
  clear x1 x2 x3 hpl
  generalize w4.heap.size = bx at *
  go_loopw [22] (fun jv wr => ∃ j : Nat, j ≤ kl ∧ jv = .int .i64 j ∧ KeepSt w 2 size ka kl kc wa wl wc bx D1 (0 + 1) wr) (fun jv _ => kl - (intOf jv).toNat)
  case atStart => exact ⟨0, by omega, rfl, hX6⟩
  case round =>
    obtain ⟨j, hj, rfl, hst⟩ := hrel
    have x2 := hst.x2
    by_cases hlt : j < kl
    · as_aux_lemma =>
      obtain ⟨b, off, hkae, hcell⟩ := HK.out (by omega)
      have hblt : b < w.heap.size := World.block_lt_of_cell? _ _ (hcell j 0 hlt (by omega)).1
      obtain ⟨cs, hinfo, hrg, heq⟩ := planes_at (w := wr) (b := b) (o := off + j * 24) (gk j) (fun x hx => ⟨(hst.below.cell (p := ⟨b, off + j * 24 + x, none⟩) hblt).trans (hcell j x hlt hx).1, (hcell j x hlt hx).2⟩)
      have hb0 : (0 : Int) ≤ (j : Int) := by omega
      have hb1 : (j : Int) < (kl : Int) := by omega
      subst hkae
      clear hcell
      go_wp2
      refine wp_region_plan (fun w' => w'.cell? ⟨bx, 2, none⟩ = some (.slice (some ⟨b, off, none⟩) kl kc) ∧ w'.rangeAt b (off + j * 24) cs) [(0, true), (1, true), (2, true), (3, true), (4, true), (5, true), (6, true), (7, true), (8, true), (9, true)] (by kernel_rfl) (by kernel_rfl) (by kernel_rfl) rfl (fun _ _ d _ _ h => by cases d <;> exact h) ⟨x2, hrg⟩ ?_
      apply wpPlan_yes
      · simp only [List.getElem?_toArray, List.getElem?_cons_succ, List.getElem?_cons_zero]; with_reducible rfl
      · rfl
      · intro w' hS; go_simp; try rfl
      try simp only [Act.put, List.setIfInBounds_toArray, List.set_cons_zero, List.set_cons_succ]
      apply wpPlan_yes
      · simp only [List.getElem?_toArray, List.getElem?_cons_succ, List.getElem?_cons_zero]; with_reducible rfl
      · rfl
      · intro w' hS; go_simp; try rfl
      try simp only [Act.put, List.setIfInBounds_toArray, List.set_cons_zero, List.set_cons_succ]
      apply wpPlan_yes
      · simp only [List.getElem?_toArray, List.getElem?_cons_succ, List.getElem?_cons_zero]; with_reducible rfl
      · rfl
      · intro w' hS; go_simp; try rfl
      try simp only [Act.put, List.setIfInBounds_toArray, List.set_cons_zero, List.set_cons_succ]
      apply wpPlan_yes
      · simp only [List.getElem?_toArray, List.getElem?_cons_succ, List.getElem?_cons_zero]; with_reducible rfl
      · rfl
      · intro w' hS; go_simp; try rfl
      try simp only [Act.put, List.setIfInBounds_toArray, List.set_cons_zero, List.set_cons_succ]
      apply wpPlan_by
      · simp only [List.getElem?_toArray, List.getElem?_cons_succ, List.getElem?_cons_zero]; with_reducible rfl
      · exact yieldsIf_load_mid rfl 53 _ rfl b (off + j * 24) rfl cs _ (fun w' h => h.2) Try.underlying53 rfl hinfo
      try simp only [Act.put, List.setIfInBounds_toArray, List.set_cons_zero, List.set_cons_succ]
      apply wpPlan_yes
      · simp only [List.getElem?_toArray, List.getElem?_cons_succ, List.getElem?_cons_zero]; with_reducible rfl
      · rfl
      · intro w' hS; go_simp; try rfl
      try simp only [Act.put, List.setIfInBounds_toArray, List.set_cons_zero, List.set_cons_succ]
      apply wpPlan_yes
      · simp only [List.getElem?_toArray, List.getElem?_cons_succ, List.getElem?_cons_zero]; with_reducible rfl
      · rfl
      · intro w' hS; go_simp; try rfl
      try simp only [Act.put, List.setIfInBounds_toArray, List.set_cons_zero, List.set_cons_succ]
      apply wpPlan_yes
      · simp only [List.getElem?_toArray, List.getElem?_cons_succ, List.getElem?_cons_zero]; with_reducible rfl
      · rfl
      · intro w' hS; go_simp; try rfl
      try simp only [Act.put, List.setIfInBounds_toArray, List.set_cons_zero, List.set_cons_succ]
      apply wpPlan_by
      · simp only [List.getElem?_toArray, List.getElem?_cons_succ, List.getElem?_cons_zero]; with_reducible rfl
      · exact yieldsIf_load_mid rfl 53 _ rfl b (off + j * 24) rfl cs _ (fun w' h => h.2) Try.underlying53 rfl hinfo
      try simp only [Act.put, List.setIfInBounds_toArray, List.set_cons_zero, List.set_cons_succ]
      apply wpPlan_yes
      · simp only [List.getElem?_toArray, List.getElem?_cons_succ, List.getElem?_cons_zero]; with_reducible rfl
      · rfl
      · intro w' hS; go_simp; try rfl
      try simp only [Act.put, List.setIfInBounds_toArray, List.set_cons_zero, List.set_cons_succ]
      simp only [wpPlan]
      go_wp2
      go_roundw
      case rel => exact ⟨j + 1, by omega, by go_num, hst.drewN 1⟩
      case measure => simp [intOf]; omega
    · as_aux_lemma =>
      clear x2
      obtain ⟨wo, rfl⟩ : ∃ wo : World, wo = wr := ⟨_, rfl⟩
      go_wp2
      go_loopw [23] (fun jv wr => ∃ j : Nat, j ≤ wl ∧ jv = .int .i64 j ∧ KeepSt w 2 size ka kl kc wa wl wc bx D1 (0 + 1) wr) (fun jv _ => wl - (intOf jv).toNat)
      case atStart => exact ⟨0, by omega, rfl, hst⟩
      case round =>
        obtain ⟨j2, hj2, rfl, hst2⟩ := hrel
        have x3 := hst2.x3
        by_cases hlt2 : j2 < wl
        · as_aux_lemma =>
          obtain ⟨b, off, hwae, hcell⟩ := HW.out (by omega)
          have hblt : b < w.heap.size := World.block_lt_of_cell? _ _ (hcell j2 0 hlt2 (by omega)).1
          have q0 := (hst2.below.cell (p := ⟨b, off + j2 * 3 + 0, none⟩) hblt).trans (hcell j2 0 hlt2 (by omega)).1
          have q1 := (hst2.below.cell (p := ⟨b, off + j2 * 3 + 1, none⟩) hblt).trans (hcell j2 1 hlt2 (by omega)).1
          have q2 := (hst2.below.cell (p := ⟨b, off + j2 * 3 + 2, none⟩) hblt).trans (hcell j2 2 hlt2 (by omega)).1
          simp only [Nat.add_zero] at q0
          have hb0 : (0 : Int) ≤ (j2 : Int) := by omega
          have hb1 : (j2 : Int) < (wl : Int) := by omega
          have heq := eq51 (hcell j2 0 hlt2 (by omega)).2 (hcell j2 1 hlt2 (by omega)).2 (hcell j2 2 hlt2 (by omega)).2
          subst hwae
          clear hcell
          go_wp2
          go_quiet (fail)
          go_wp2
          go_roundw
          case rel => exact ⟨j2 + 1, by omega, by go_num, hst2.drewN _⟩
          case measure => simp [intOf]; omega
        · as_aux_lemma =>
          clear x3
          go_wp2_with fail
          refine (put_any D1 (i % 4) 1 0 none 0 0 none 0 0 _ hst2.c hst2.own (by decide) hwi (by decide)).mono ?_
          rintro e w7 ⟨he, own7, hg7⟩
          rw [F.out.again] at he own7
          simp only [Bool.false_eq_true, if_false] at he own7
          subst he
          have c7 := hg7.cell hst2.c (show some (w.heap.size + 1) ≠ some w.heap.size by simp)
          have hB7 : Below w.heap.size w w7 := hst2.below.grown hg7 hst2.below.size (fun j h => by have := Option.some.inj h; omega)
          clear hst2 hg7 hst hX6
          go_wp2_with fail
          refine (drop_any D1 (i % 4) _ c7 own7 hwi).mono ?_
          rintro e w8 ⟨he, own8, hg8⟩
          rw [F.out.drop] at he own8
          simp only [if_true] at own8
          subst he
          rw [HD2.out] at own8
          have c8 := hg8.cell c7 (show some (w.heap.size + 1) ≠ some w.heap.size by simp)
          have hB8 : Below w.heap.size w w8 := hB7.grown hg8 hB7.size (fun j h => by have := Option.some.inj h; omega)
          clear own7 c7 hg8 hB7
          go_wp2_with fail
          refine (free_any D2 (i % 4) _ c8 own8 hwi).mono ?_
          rintro e w9 ⟨he, hb9⟩
          rw [F.out.free2] at he
          subst he
          have c9 := (hb9.cell (p := ⟨w.heap.size + 1, 0, none⟩) (World.block_lt_of_cell? _ _ c8)).trans c8
          have own9 := own8.below hb9 own8.lt
          have hB9 := hB8.trans (hb9.mono hB8.size)
          clear own8 c8 hb9 hB8
          go_wp2_with fail
          refine (count_any D2 _ c9 own9).mono ?_
          rintro e w10 ⟨he, rfl⟩
          rw [F.out.size2] at he
          subst he
          go_wp2_with fail
          refine (get_any D2 (i % 4) 2 _ c9 own9 hwi).mono ?_
          rintro e w11 ⟨k0, s0, a0, l0, m0, a1, l1, m1, he, _, hb11⟩
          rw [F.out.get2] at he
          subst he
          have hB11 := hB9.trans (hb11.mono hB9.size)
          clear own9 c9 hb11 hB9
          go_wp2_with fail
          refine (awake_any _).mono ?_
          rintro e w12 ⟨rfl, hb12⟩
          go_wp2_with fail
          go_returns
          exact ⟨rfl, (hB11.alloc hB11.size _).trans (hb12.mono (by rw [World.size_alloc]; exact Nat.le_succ_of_le hB11.size))⟩
end Go.Proofs.Ytiemcbeeehbhjaa
