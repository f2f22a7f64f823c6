/- The chapter's examples; what ties the program's slots to the document's places. -/
import Derived.Test.YtiemcbeeehbhjaaB
namespace Go.Proofs.Ytiemcbeeehbhjaa
open Go.RowKit Go.Maps

theorem awake_any (w : World) : Calls Try.prog 15 #[] w fun e w' => e = .returned (.bool true) ∧ Below w.heap.size w w' := by
  have hown := World.ownsMap_made w Try.prog 3 RV
  have hown0 := hown.alloc (.cells #[.map (some w.heap.size)] 58)
  have hp : putB (.map []) 4 1 = false := by decide
  have hd : dropE (.map []) 2 = 7 := by decide
  have HP := Lib.hid hp; have HD := Lib.hid hd; clear hp hd
  go_enter Try.func15, Try.ntmps15
  go_wp2_with (first
    | (go_at_call 10; go_loud (refine (new_any _).mono ?_; rintro e w1 ⟨rfl, rfl⟩))
    | (go_at_call 6; go_loud (refine (put_any (bm := w.heap.size) (n := 0) (.map []) 4 1 0 none 0 0 none 0 0 _ (by simp) hown0 (by decide) (by decide) (by decide)).mono ?_; rintro e w1 ⟨he, hown1, hg1⟩; rw [HP.out] at he hown1; simp only [Bool.false_eq_true, if_false] at he hown1; subst he; have c1 := hg1.cell (a := ⟨w.heap.size + 1, 0, none⟩) (v := .map (some w.heap.size)) (by simp) (by simp); have hs1 := hg1.size))
    | (go_at_call 7; go_loud (refine (drop_any (bm := w.heap.size) (n := 1) (.map []) 2 _ c1 hown1 (by decide)).mono ?_; rintro e w2 ⟨he, hown2, hg2⟩; rw [HD.out] at he; subst he)))
  go_returns
  refine ⟨rfl, ?_⟩
  refine Below.grown (Below.grown (((Below.refl _ w).alloc (Nat.le_refl _) _).alloc (by simp) _) hg1 (by simp; omega) (by simp)) hg2 (by simp at hs1; omega) (by simp)

/-- The program's map and the document's places tell the same. -/
structure Agree (D : DataW Value) (K S : Nat → Int) : Prop where
  tidy : Tidy D
  has : ∀ j : Nat, j < 4 → Maps.has D (.int .i64 j) = (K j != 0)
  at_ : ∀ j : Nat, j < 4 → K j ≠ 0 → kindOf (slotAt D j) = K j ∧ sizeOf' (slotAt D j) = S j
  size : Maps.size D = cnt K 4

theorem cnt_congr {K K' : Nat → Int} : ∀ {j : Nat}, (∀ i, i < j → K i = K' i) → cnt K j = cnt K' j
  | 0, _ => rfl
  | j + 1, h => by unfold cnt; rw [h j (by omega), cnt_congr (fun i hi => h i (by omega))]
theorem cnt_upd (K : Nat → Int) (i : Nat) (k : Int) (hk : k ≠ 0) (h0 : K i = 0) : ∀ j, cnt (upd K i k) j = cnt K j + if i < j then 1 else 0
  | 0 => by simp [cnt]
  | j + 1 => by
    by_cases e : j = i
    · subst e
      have e1 : cnt (upd K j k) j = cnt K j := cnt_congr (fun a ha => by unfold upd; rw [if_neg (by omega)])
      simp [cnt, upd, hk, h0, e1]
    · have := cnt_upd K i k hk h0 j
      have e2 : upd K i k j = K j := by unfold upd; rw [if_neg (by omega)]
      by_cases hij : i < j
      · rw [if_pos hij] at this; rw [if_pos (by omega)]; unfold cnt; rw [e2, this]; split <;> omega
      · rw [if_neg hij] at this; rw [if_neg (by omega)]; unfold cnt; rw [e2, this]; split <;> omega
theorem cnt_zero (K : Nat → Int) (i : Nat) (h0 : K i ≠ 0) : ∀ j, cnt (upd K i 0) j + (if i < j then 1 else 0) = cnt K j
  | 0 => by simp [cnt]
  | j + 1 => by
    by_cases e : j = i
    · subst e
      have e1 : cnt (upd K j 0) j = cnt K j := cnt_congr (fun a ha => by unfold upd; rw [if_neg (by omega)])
      simp [cnt, upd, h0, e1]
    · have := cnt_zero K i h0 j
      have e2 : upd K i 0 j = K j := by unfold upd; rw [if_neg (by omega)]
      by_cases hij : i < j
      · rw [if_pos hij] at this; rw [if_pos (by omega)]; unfold cnt; rw [e2]; split <;> omega
      · rw [if_neg hij] at this; rw [if_neg (by omega)]; unfold cnt; rw [e2]; split <;> omega

theorem Agree.empty : Agree (.map []) (fun _ => 0) (fun _ => 0) :=
  ⟨tidy_empty, fun _ _ => rfl, fun _ _ h => absurd rfl h, by decide⟩
theorem Agree.put {D : DataW Value} {K S : Nat → Int} (h : Agree D K S) (i k : Int) : putB D i k = (rputE K i k == 0) := by
  unfold putB freeB rputE
  by_cases hi : 0 ≤ i ∧ i < 4
  · have e := h.has i.toNat (by omega)
    rw [Int.toNat_of_nonneg hi.1] at e
    rw [e]
    by_cases h0 : K i.toNat = 0
    · by_cases hk : k = 1 ∨ k = 2
      · simp [hi, h0, hk]
      · simp [hi, h0, hk]; omega
    · simp [hi, h0]
  · simp [hi]
theorem ikl (i : Int) : WideAt.IsKeyLit (.int .i64 i) := trivial
theorem lit_ne {a b : Int} (h : a ≠ b) : (Lit.int .i64 a) ≠ .int .i64 b := by simpa using h
theorem slotAt_put_same {D : DataW Value} (h : IsMap D) (i : Int) (v : Value) : slotAt (D.put (.int .i64 i) (.held v)) i = v := by
  unfold slotAt; rw [atKey_put_same h (ikl _)]
theorem slotAt_put_other {D : DataW Value} {i j : Int} (hne : j ≠ i) (v : Value) : slotAt (D.put (.int .i64 i) (.held v)) j = slotAt D j := by
  unfold slotAt; rw [atKey_put_other (lit_ne hne)]
theorem slotAt_del_other {D : DataW Value} {i j : Int} (hne : j ≠ i) : slotAt (D.del (.int .i64 i)) j = slotAt D j := by
  unfold slotAt; rw [atKey_del_other (lit_ne hne)]
theorem rputE_zero {K : Nat → Int} {i k : Int} (h : rputE K i k = 0) : 0 ≤ i ∧ i < 4 ∧ K i.toNat = 0 ∧ k ≠ 0 := by
  unfold rputE at h
  by_cases hi : 0 ≤ i ∧ i < 4
  · by_cases h0 : K i.toNat = 0
    · by_cases hk : k = 1 ∨ k = 2
      · exact ⟨hi.1, hi.2, h0, by omega⟩
      · simp [hi, h0, hk] at h
    · simp [hi, h0] at h
  · simp [hi] at h
theorem Agree.putted {D : DataW Value} {K S : Nat → Int} (h : Agree D K S) {i k s : Int} {a : Option Addr} {l c : Nat} {a' : Option Addr} {l' c' : Nat} (he : rputE K i k = 0) :
    Agree (D.put (.int .i64 i) (.held (slotV k s a l c a' l' c'))) (upd K i k) (upd S i s) := by
  obtain ⟨h1, h2, h0, hk⟩ := rputE_zero he
  obtain ⟨j, rfl⟩ : ∃ j : Nat, i = j := ⟨i.toNat, by omega⟩
  simp only [Int.toNat_natCast] at h0
  have hj : j < 4 := by omega
  have hf : Maps.has D (.int .i64 j) = false := by rw [h.has j hj, h0]; rfl
  refine ⟨h.tidy.put (ikl _) _, fun m hm => ?_, fun m hm hne => ?_, ?_⟩
  · by_cases e : m = j
    · subst e; rw [has_put_same h.tidy.isMap (ikl _)]; simp [upd, hk]
    · rw [has_put_other (lit_ne (by omega)), h.has m hm]; unfold upd; rw [if_neg (by omega)]
  · by_cases e : m = j
    · subst e; rw [slotAt_put_same h.tidy.isMap]; simp [upd, slotV, kindOf, sizeOf']
    · rw [slotAt_put_other (by omega)]
      unfold upd at hne ⊢
      rw [if_neg (by omega)] at hne ⊢
      rw [if_neg (by omega)]
      exact h.at_ m hm hne
  · rw [size_put h.tidy, hf]
    have := cnt_upd K j k hk h0 4
    rw [if_pos hj] at this
    rw [this]
    simp only [Bool.false_eq_true, if_false]
    have := h.size
    omega
theorem Agree.get {D : DataW Value} {K S : Nat → Int} (h : Agree D K S) (i k : Int) : getE D i k = rgetE K i k := by
  unfold getE rgetE
  by_cases hi : 0 ≤ i ∧ i < 4
  · have e := h.has i.toNat (by omega)
    have e2 := h.at_ i.toNat (by omega)
    rw [Int.toNat_of_nonneg hi.1] at e e2
    by_cases h0 : K i.toNat = 0
    · simp [hi, e, h0]
    · obtain ⟨e3, _⟩ := e2 h0
      by_cases hk : K i.toNat = k
      · simp [hi, e, e3, hk]
        try exact fun hk0 => absurd (hk.trans hk0) h0
      · simp [hi, e, h0, e3, hk]
  · simp [hi]
theorem Agree.got {D : DataW Value} {K S : Nat → Int} (h : Agree D K S) {i k : Int} (he : rgetE K i k = 0) : kindOf (getV D i k) = k ∧ sizeOf' (getV D i k) = S i.toNat := by
  have hg : getE D i k = 0 := (h.get i k).trans he
  have hi : 0 ≤ i ∧ i < 4 := by
    by_cases hi : 0 ≤ i ∧ i < 4
    · exact hi
    · simp [rgetE, hi] at he
  have h1 : K i.toNat ≠ 0 ∧ K i.toNat = k := by
    by_cases h0 : K i.toNat = 0
    · simp [rgetE, hi, h0] at he
    · by_cases hk : K i.toNat = k
      · exact ⟨h0, hk⟩
      · simp [rgetE, hi, h0, hk] at he
  have e := h.at_ i.toNat (by omega) h1.1
  rw [Int.toNat_of_nonneg hi.1] at e
  unfold getV
  rw [if_pos hg, ← h1.2]
  exact e
theorem Agree.drop {D : DataW Value} {K S : Nat → Int} (h : Agree D K S) (i : Int) : dropE D i = rdropE K i := by
  unfold dropE rdropE
  by_cases hi : 0 ≤ i ∧ i < 4
  · have e := h.has i.toNat (by omega)
    rw [Int.toNat_of_nonneg hi.1] at e
    by_cases h0 : K i.toNat = 0
    · simp [hi, e, h0]
    · simp [hi, e, h0]
  · simp [hi]
theorem Agree.dropped {D : DataW Value} {K S : Nat → Int} (h : Agree D K S) {i : Int} (he : rdropE K i = 0) : Agree (D.del (.int .i64 i)) (upd K i 0) (upd S i 0) := by
  have hi : 0 ≤ i ∧ i < 4 := by
    by_cases hi : 0 ≤ i ∧ i < 4
    · exact hi
    · simp [rdropE, hi] at he
  have h0 : K i.toNat ≠ 0 := by
    intro h0
    simp [rdropE, hi, h0] at he
  obtain ⟨j, rfl⟩ : ∃ j : Nat, i = j := ⟨i.toNat, by omega⟩
  simp only [Int.toNat_natCast] at h0
  have hj : j < 4 := by omega
  have hf : Maps.has D (.int .i64 j) = true := by rw [h.has j hj]; simpa using h0
  refine ⟨h.tidy.del _, fun m hm => ?_, fun m hm hne => ?_, ?_⟩
  · by_cases e : m = j
    · subst e; rw [has_del_same]; simp [upd]
    · rw [has_del_other (lit_ne (by omega)), h.has m hm]; unfold upd; rw [if_neg (by omega)]
  · by_cases e : m = j
    · subst e; simp [upd] at hne
    · rw [slotAt_del_other (by omega)]
      unfold upd at hne ⊢
      rw [if_neg (by omega)] at hne ⊢
      rw [if_neg (by omega)]
      exact h.at_ m hm hne
  · have h1 := size_del (k := .int .i64 (j : Int)) h.tidy
    rw [hf] at h1
    have := cnt_zero K j h0 4
    rw [if_pos hj] at this
    have := h.size
    simp only [if_true] at h1
    omega

theorem Agree.putE {D : DataW Value} {K S : Nat → Int} (h : Agree D K S) (i k : Int) : (if putB D i k = true then (0 : Int) else 6) = rputE K i k := by
  rw [h.put]
  by_cases e : rputE K i k = 0
  · simp [e]
  · have : rputE K i k = 6 := by
      unfold rputE at e ⊢
      by_cases hc : (decide (0 ≤ i ∧ i < 4) && K i.toNat == 0 && (k == 1 || k == 2)) = true
      · rw [if_pos hc] at e; exact absurd rfl e
      · rw [if_neg hc]
    simp [this]
theorem Agree.putStep {D : DataW Value} {K S : Nat → Int} (h : Agree D K S) (i k s : Int) (a : Option Addr) (l c : Nat) (a' : Option Addr) (l' c' : Nat) :
    Agree (if putB D i k = true then D.put (.int .i64 i) (.held (slotV k s a l c a' l' c')) else D) (if rputE K i k = 0 then upd K i k else K) (if rputE K i k = 0 then upd S i s else S) := by
  rw [h.put]
  by_cases e : rputE K i k = 0
  · simp only [e, beq_self_eq_true, if_true]; exact h.putted e
  · have : (rputE K i k == 0) = false := by simpa using e
    simp only [this, Bool.false_eq_true, if_false, e]; exact h
theorem Agree.dropStep {D : DataW Value} {K S : Nat → Int} (h : Agree D K S) (i : Int) :
    Agree (if dropE D i = 0 then D.del (.int .i64 i) else D) (if rdropE K i = 0 then upd K i 0 else K) (if rdropE K i = 0 then upd S i 0 else S) := by
  rw [h.drop]
  by_cases e : rdropE K i = 0
  · simp only [e, if_true]; exact h.dropped e
  · simp only [e, if_false]; exact h

theorem Agree.getStep {D : DataW Value} {K S : Nat → Int} (h : Agree D K S) {i k k0 s0 : Int} {a : Option Addr} {l c : Nat} {a' : Option Addr} {l' c' : Nat} (hv : getV D i k = slotV k0 s0 a l c a' l' c') :
    s0 = (if rgetE K i k = 0 then S i.toNat else 0) ∧ (rgetE K i k = 0 → k0 = k) := by
  by_cases e : rgetE K i k = 0
  · have := h.got e
    rw [hv] at this
    rw [if_pos e]
    exact ⟨this.2, fun _ => this.1⟩
  · rw [if_neg e]
    refine ⟨?_, fun h => absurd h e⟩
    have hz : getV D i k = zslot := by unfold getV; rw [if_neg (by rw [h.get]; exact e)]
    rw [hz] at hv
    simp [zslot, slotV] at hv
    exact hv.2.1.symm
theorem Agree.free {D : DataW Value} {K S : Nat → Int} (h : Agree D K S) (i : Int) : freeB D i = (decide (0 ≤ i ∧ i < 4) && (K i.toNat == 0)) := by
  unfold freeB
  by_cases hi : 0 ≤ i ∧ i < 4
  · have e := h.has i.toNat (by omega)
    rw [Int.toNat_of_nonneg hi.1] at e
    simp [hi, e, bne]
  · simp [hi]
end Go.Proofs.Ytiemcbeeehbhjaa
