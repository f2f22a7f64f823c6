/- replay.words: the iterator. Conditions: each lemma's own. -/
import Derived.Test.YtdlmijcnjjdbbaaPw
import Derived.Test.YtdlmijcnjjdbbaaLx
namespace Go.Proofs.Ytdlmijcnjjdbbaa
open Go Go.RowKit

theorem infoU64 : (Try.prog.info? 40).map (fun i => (i.zero, i.size, i.bytes)) = some (some (.int .u64 0), 1, 8) := by kernel_rfl
theorem underU64s : Try.prog.underlying 26 = some (.slice 40) := by kernel_rfl

/-- Between two rounds of the iterator. -/
structure ItSt (w0 W : World) (bl : Bool) (keys opened masks : List W64) (ops : List OpV) (sb vb : Nat) (J : List W64 → World → Prop) (j : Nat) (wr : World) : Prop where
  src : SrcAt w0 wr sb keys (masks.drop (kn (ops.take j) 1)) (if bl = true then opened.drop (kn (ops.take j) 12) else opened) bl
  box : Boxed wr vb 26 (.slice (some ⟨W.heap.size, 0, none⟩) j ops.length)
  row : wr.ownsRow W.heap.size 40 1 (.slice (some ⟨W.heap.size, 0, none⟩) j ops.length) j ((upV bl keys opened masks ops j).map fun x => .int .u64 (U x))
  inv : J (upV bl keys opened masks ops j) wr
  size : W.heap.size ≤ wr.heap.size

theorem ItSt.next {w0 W : World} {bl : Bool} {keys opened masks : List W64} {ops : List OpV} {sb vb : Nat} {J : List W64 → World → Prop} {j : Nat} {o : OpV} {x : W64} {W' w6 : World} {tmp : Obj} (ho : ops[j]? = some o)
    (hx : stepV bl keys opened masks (upV bl keys opened masks ops j) (kn (ops.take j) 1) (kn (ops.take j) 12) o = x)
    (hJ : ∀ s A B, J s A → Touch (fun k => k = sb ∨ W.heap.size ≤ k) A B → J s B) (hj : J (upV bl keys opened masks ops j ++ [x]) W')
    (hs : SrcAt w0 W' sb keys (masks.drop (kn (ops.take (j + 1)) 1)) (if bl = true then opened.drop (kn (ops.take (j + 1)) 12) else opened) bl)
    (ho6 : w6.ownsRow W.heap.size 40 1 (.slice (some ⟨W.heap.size, 0, none⟩) (j + 1) ops.length) (j + 1) ((upV bl keys opened masks ops j).map (fun x => Value.int .u64 (U x)) ++ [.int .u64 (U x)]))
    (hg6 : (W'.alloc tmp).grownBy w6 (some W.heap.size)) (hb6 : Boxed w6 vb 26 (.slice (some ⟨W.heap.size, 0, none⟩) j ops.length)) (h1 : sb < W.heap.size) (h2 : W.heap.size < vb) (h3 : W.heap.size ≤ W'.heap.size) (h4 : w0.heap.size ≤ W.heap.size) :
    ItSt w0 W bl keys opened masks ops sb vb J (j + 1) (w6.setCell ⟨vb, 0, none⟩ (.slice (some ⟨W.heap.size, 0, none⟩) (j + 1) ops.length)) := by
  have ht : Touch (fun k => W.heap.size ≤ k) W' (w6.setCell ⟨vb, 0, none⟩ (.slice (some ⟨W.heap.size, 0, none⟩) (j + 1) ops.length)) :=
    ((Touch.alloc _ W' tmp).trans (Touch.of_grown hg6 (fun k e => by cases e; exact Nat.le_refl _))).trans (Touch.setCell _ _ _ _ (Nat.le_of_lt h2))
  have e : upV bl keys opened masks ops (j + 1) = upV bl keys opened masks ops j ++ [x] := by rw [upV_step ho, hx]
  refine ⟨hs.kept ht (fun k hk => Nat.le_trans h4 hk) (by omega), hb6.set _, ?_, ?_, Nat.le_trans h3 ht.size⟩
  · rw [e, List.map_append]
    exact ho6.kept (grownBy_setCell' w6 vb _) (.inr (by simp [Value.ownBlock]; omega))
  · rw [e]
    exact hJ _ _ _ hj (ht.mono (fun k _ h => .inr h))

set_option maxRecDepth 100000 in
set_option maxHeartbeats 4000000 in
theorem words1_any (w0 : World) (bl : Bool) (keys opened masks : List W64) (oa : Option Addr) (oc : Nat) (ops : List OpV) (hT : OpsAt w0 oa ops) (hlen : ops.length ≤ 1048576)
    (hwf : ∀ o ∈ ops, o.Wf) (hreg : ∀ (j : Nat) (o : OpV), ops[j]? = some o → o.a < (j : Int) ∧ o.b < (j : Int) ∧ o.d < (j : Int)) (hkey : ∀ o ∈ ops, o.kind = 2 → bl = false → (cw o).toNat < keys.length) (hm : masks.length = kn ops 1) (ho : bl = true → opened.length = kn ops 12)
    (l tb sb : Nat) (J : List W64 → World → Prop) (D : Nat → Prop) (W : World) (hs : SrcAt w0 W sb keys masks opened bl) (htb : W.cell? ⟨tb, 1, none⟩ = some (.slice oa ops.length oc)) 
    (hD : ∀ k, D k → w0.heap.size ≤ k ∧ k ≠ sb ∧ k < W.heap.size)
    (hJ : ∀ s A B, J s A → Touch (fun k => k = sb ∨ W.heap.size ≤ k) A B → J s B)
    (hY : ∀ pre x W1, J pre W1 → pre.length < ops.length → YieldAt Fence.wide 9 Try.prog l #[.int .u64 (U x)] W1 fun e W' => e = .returned (.bool true) ∧ J (pre ++ [x]) W' ∧ Touch D W1 W')
    (h0 : J [] W) :
    Calls Try.prog 83 #[.func (.yield l) #[] #[], .pointer (some ⟨tb, 0, none⟩), .pointer (some ⟨sb, 0, none⟩)] W fun e W' => (∃ v, e = .returned v) ∧ J (upV bl keys opened masks ops ops.length) W' := by
  obtain ⟨i0, hi, hz0, hz1, hz2⟩ := info_parts infoU64
  have HI := Lib.hid hi; have HZ0 := Lib.hid hz0; have HZ1 := Lib.hid hz1; have HZ2 := Lib.hid hz2
  have HT := Lib.hid hT; have HWF := Lib.hid hwf; have HREG := Lib.hid hreg; have HKEY := Lib.hid hkey; have HM := Lib.hid hm; have HO := Lib.hid ho; have HD := Lib.hid hD; have HJ := Lib.hid hJ; have HY := Lib.hid hY; have H0 := Lib.hid h0; have HS := Lib.hid hs
  clear hi hz0 hz1 hz2 hT hwf hreg hkey hm ho hD hJ hY h0 hs
  go_enter Try.func83, Try.ntmps83
  go_wp2_with (at_make; refine wpList_make_own _ rfl _ _ 26 rfl W.heap.size 40 i0 (.int .u64 0) 1 underU64s HI.out HZ0.out HZ1.out .i64 .i64 _ ops.length rfl rfl rfl (by rw [HZ2.out]; omega) (by unfold maxLen; omega) (Nat.le_refl _) ?_; intro w1 hown hgrow; have htb1 := hgrow.cell htb (by simp); have htl := lt_of_cell htb1)
  obtain ⟨vb, hvb⟩ : ∃ vb, w1.heap.size = vb := ⟨_, rfl⟩
  rw [hvb]
  have HVB := Lib.hid hvb
  have HVK : Hid (¬ vb = sb ∧ ¬ W.heap.size = sb ∧ W.heap.size < vb) := Lib.hid (by
    have h1 := HS.out.hi
    have h2 : W.heap.size < w1.heap.size := (World.ownsRow.lt hown W.heap.size rfl).2
    refine ⟨?_, ?_, ?_⟩ <;> omega)
  clear hvb
  go_loopw [17] (fun i wr => ∃ j : Nat, j ≤ ops.length ∧ i = .int .i64 j ∧ ItSt w0 W bl keys opened masks ops sb vb J j wr) (fun i _ => ops.length - (intOf i).toNat)
  case atStart =>
    have hvb := HVB.out
    have ht : Touch (fun k => k = sb ∨ W.heap.size ≤ k) W (w1.alloc (.cells #[.slice (some ⟨W.heap.size, 0, none⟩) 0 ops.length] 26)) := (Touch.of_grown hgrow (fun k e => by cases e)).trans (Touch.alloc _ _ _)
    have ht' : Touch (fun _ => False) W (w1.alloc (.cells #[.slice (some ⟨W.heap.size, 0, none⟩) 0 ops.length] 26)) := (Touch.of_grown hgrow (fun k e => by cases e)).trans (Touch.alloc _ _ _)
    refine ⟨0, by omega, rfl, ⟨?_, ?_, ?_, ?_, ht.size⟩⟩
    · have := HS.out.kept ht' (fun _ h => h.elim) id
      simpa [kn] using this
    · rw [← hvb]; exact Boxed.new _ _ _
    · have := hown.alloc (.cells #[.slice (some ⟨W.heap.size, 0, none⟩) 0 ops.length] 26)
      simpa [upV, runV] using this
    · have := HJ.out _ _ _ H0.out ht
      simpa [upV, runV] using this
  case round =>
    obtain ⟨j, hj, rfl, hst⟩ := hrel
    by_cases hlt : j < ops.length
    · obtain ⟨o, ho⟩ : ∃ o, ops[j]? = some o := ⟨_, List.getElem?_eq_getElem hlt⟩
      obtain ⟨b, off, rfl, hb, c0, c1, c2, c3, c4, c5⟩ := HT.out.at ho
      have hB := hst.src.below
      have q0 := (hB.cell (p := ⟨b, off + j * 6, none⟩) hb).trans c0
      have q1 := (hB.cell (p := ⟨b, off + j * 6 + 1, none⟩) hb).trans c1
      have q2 := (hB.cell (p := ⟨b, off + j * 6 + 2, none⟩) hb).trans c2
      have q3 := (hB.cell (p := ⟨b, off + j * 6 + 3, none⟩) hb).trans c3
      have q4 := (hB.cell (p := ⟨b, off + j * 6 + 4, none⟩) hb).trans c4
      have q5 := (hB.cell (p := ⟨b, off + j * 6 + 5, none⟩) hb).trans c5
      clear c0 c1 c2 c3 c4 c5 hB
      have HSt := Lib.hid hst
      have hwo := HWF.out o (List.mem_of_getElem? ho)
      have hro := HREG.out j o ho
      have hko := HKEY.out o (List.mem_of_getElem? ho)
      obtain ⟨kind, dom, ra, rb, rd, c⟩ := o
      obtain ⟨cc, rfl⟩ := U_of hwo.c
      dsimp only at q0 q1 q2 q3 q4 q5 hro hko
      have hcw : cw ⟨kind, dom, ra, rb, rd, U cc⟩ = cc := ofInt_U cc
      rw [hcw] at hko
      have HCW := Lib.hid hcw
      obtain ⟨hra, hrb, hrd⟩ := hro
      have hul := upV_length (bl := bl) (keys := keys) (opened := opened) (masks := masks) (Nat.le_of_lt hlt)
      have HUL := Lib.hid hul
      have HKO := Lib.hid hko
      obtain ⟨box, hbox⟩ : ∃ box, Obj.cells #[.int .i64 kind, .int .i64 dom, .int .i64 ra, .int .i64 rb, .int .i64 rd, .int .u64 (U cc)] 60 = box := ⟨_, rfl⟩
      have hvc : (wr.alloc box).cell? ⟨vb, 0, none⟩ = some (.slice (some ⟨W.heap.size, 0, none⟩) (upV bl keys opened masks ops j).length ops.length) := by rw [hul]; exact (hst.box.alloc _).cell
      have HVC := Lib.hid hvc
      have hvw : WordsAt (wr.alloc box) (some ⟨W.heap.size, 0, none⟩) (upV bl keys opened masks ops j) := by
        obtain ⟨_, a, cap, e, _, _, h⟩ := ownsRow_words (hst.row.alloc box)
        cases e; exact h
      have HVW := Lib.hid hvw
      have HLM : Hid ((upV bl keys opened masks ops j).length ≤ maxLen) := Lib.hid (by rw [hul]; unfold maxLen; omega)
      have HLA : Hid (ra < ((upV bl keys opened masks ops j).length : Int) ∧ rb < ((upV bl keys opened masks ops j).length : Int) ∧ rd < ((upV bl keys opened masks ops j).length : Int)) := Lib.hid (by rw [hul]; exact ⟨hra, hrb, hrd⟩)
      have HSA := Lib.hid (hst.src.kept (Touch.alloc (fun _ => False) wr box) (fun _ h => h.elim) id)
      have hm1 : kind = 1 → masks.drop (kn (ops.take j) 1) ≠ [] := by
        intro hk h
        have := kn_lt ho hk
        have := congrArg List.length h
        rw [List.length_drop, HM.out] at this
        simp at this; omega
      have HM1 := Lib.hid hm1
      have HC : Hid (∀ w', Touch (fun k => k = sb) (wr.alloc box) w' → w'.cell? ⟨wr.heap.size, 0, none⟩ = some (.int .i64 kind) ∧ w'.cell? ⟨wr.heap.size, 1, none⟩ = some (.int .i64 dom) ∧ w'.cell? ⟨wr.heap.size, 2, none⟩ = some (.int .i64 ra) ∧
          w'.cell? ⟨wr.heap.size, 3, none⟩ = some (.int .i64 rb) ∧ w'.cell? ⟨wr.heap.size, 4, none⟩ = some (.int .i64 rd) ∧ w'.cell? ⟨wr.heap.size, 5, none⟩ = some (.int .u64 (U cc))) := Lib.hid (by
        intro w' ht
        have hlt : wr.heap.size < (wr.alloc box).heap.size := by rw [World.size_alloc]; exact Nat.lt_succ_self _
        have hne : ¬ wr.heap.size = sb := by have := hst.src.hi; omega
        rw [ht.cell (p := ⟨wr.heap.size, 0, none⟩) hlt hne, ht.cell (p := ⟨wr.heap.size, 1, none⟩) hlt hne, ht.cell (p := ⟨wr.heap.size, 2, none⟩) hlt hne, ht.cell (p := ⟨wr.heap.size, 3, none⟩) hlt hne, ht.cell (p := ⟨wr.heap.size, 4, none⟩) hlt hne, ht.cell (p := ⟨wr.heap.size, 5, none⟩) hlt hne]
        rw [← hbox]
        exact ⟨World.cell?_alloc_mark _ _ _ _ _, World.cell?_alloc_mark _ _ _ _ _, World.cell?_alloc_mark _ _ _ _ _, World.cell?_alloc_mark _ _ _ _ _, World.cell?_alloc_mark _ _ _ _ _, World.cell?_alloc_mark _ _ _ _ _⟩)
      clear hst hwo hko hcw hul hvc hvw hm1 hra hrb hrd
      go_wp2_with fail
      try rw [hbox]
      have HBX := Lib.hid hbox
      clear hbox
      go_region_held3 (fun w' => w'.cell? ⟨wr.heap.size, 0, none⟩ = some (.int .i64 kind) ∧ w'.cell? ⟨wr.heap.size, 1, none⟩ = some (.int .i64 dom) ∧ w'.cell? ⟨wr.heap.size, 2, none⟩ = some (.int .i64 ra) ∧
          w'.cell? ⟨wr.heap.size, 3, none⟩ = some (.int .i64 rb) ∧ w'.cell? ⟨wr.heap.size, 4, none⟩ = some (.int .i64 rd) ∧ w'.cell? ⟨wr.heap.size, 5, none⟩ = some (.int .u64 (U cc)))
        (first | exact HF.out | exact HC.out _ (touch_drew _ _ 1))
        (first
          | (go_at_call 84; refine (at_any _ vb _ _ _ (upV bl keys opened masks ops j) (by exact HVC.out) (by first | exact HLA.out.1 | exact HLA.out.2.1 | exact HLA.out.2.2) HLM.out (by exact HVW.out)).mono ?_; rintro e w' ⟨rfl, rfl⟩)
          | (go_at_call 86; refine (outside_any ⟨kind, dom, ra, rb, rd, U cc⟩ cc rfl w0 sb keys _ _ bl _ (HSA.out.kept (touch_drew (fun _ => False) _ 1) (fun _ h => h.elim) id) HM1.out HKO.out).mono ?_; rintro e w2 ⟨rfl, hs2, ht2⟩; have HS2 := Lib.hid hs2; have HT2 := Lib.hid (Touch.trans (touch_drew _ (wr.alloc box) 1) ht2); have HF := Lib.hid (HC.out _ HT2.out); clear hs2 ht2)
          | (go_at_call 85; refine (eval_any kind dom ra rb rd cc _ _ _ _ _).mono ?_; rintro e w3 ⟨rfl, hb3⟩; have HS3 := Lib.hid (HS2.out.kept (Touch.of_below (D := fun _ => False) hb3 (fun k h1 h2 => by omega)) (fun _ h => h.elim) id); have HT3 := Lib.hid (HT2.out.trans (Touch.of_below hb3 (fun k h1 h2 => by omega))); have HF := Lib.hid (HC.out _ HT3.out); clear hb3))
      obtain ⟨f0, f1, f2, f3, f4, f5⟩ := HF.out
      have b3 := HS3.out.cb
      clear f1 f2 f3 f4 f5
      by_cases hk : kind = 12
      · subst hk
        cases bl
        · go_upto_region 8 with (fail)
          obtain ⟨x, hx⟩ : ∃ x, evalW 12 cc (atV (upV false keys opened masks ops j) ra) (atV (upV false keys opened masks ops j) rb) (atV (upV false keys opened masks ops j) rd) (outV false keys (List.drop (kn (List.take j ops) 1) masks) 0 12 cc) = x := ⟨_, rfl⟩
          rw [hx]
          have HX : Hid (stepV false keys opened masks (upV false keys opened masks ops j) (kn (ops.take j) 1) (kn (ops.take j) 12) ⟨12, dom, ra, rb, rd, U cc⟩ = x) := Lib.hid (by rw [← hx, outV_drop]; simp [stepV, HCW.out])
          clear hx
          have HS4 : Hid (SrcAt w0 w3 sb keys (masks.drop (kn (ops.take (j + 1)) 1)) (if false = true then opened.drop (kn (ops.take (j + 1)) 12) else opened) false) := Lib.hid (by rw [kn_step ho 1]; simpa using HS3.out)
          have HT4 := HT3
          obtain ⟨w4, rfl⟩ : ∃ w4, w4 = w3 := ⟨_, rfl⟩
          have hJ4 : J (upV false keys opened masks ops j) w4 := HJ.out _ _ _ HSt.out.inv ((Touch.alloc _ wr box).trans (HT4.out.mono (fun k _ h => .inl h)))
          obtain ⟨fn, tmps, assign, body, hy, hR⟩ := HY.out _ x w4 hJ4 (by rw [HUL.out]; exact hlt)
          clear hJ4
          refine (wpIn_wide (n := 10)).1 ?_
          gi_wp2
          refine hR.mono ?_
          rintro e W' ⟨rfl, hJ', ht'⟩
          clear hy hR
          have HJ' := Lib.hid hJ'
          have HT' := Lib.hid ht'
          clear hJ' ht'
          have hvk := HVK.out
          have hb5 : Boxed W' vb 26 (.slice (some ⟨W.heap.size, 0, none⟩) j ops.length) := boxed_touch (boxed_touch (HSt.out.box.alloc box) HT4.out hvk.1) HT'.out (fun h => by have := (HD.out _ h).2.2; omega)
          have hr5 : W'.ownsRow W.heap.size 40 1 (.slice (some ⟨W.heap.size, 0, none⟩) j ops.length) j ((upV false keys opened masks ops j).map fun x => .int .u64 (U x)) :=
            ownsRow_touch (ownsRow_touch (HSt.out.row.alloc box) HT4.out (fun k hk h => by simp [Value.ownBlock] at hk; have := hvk.2; omega)) HT'.out (fun k hk h => by simp [Value.ownBlock] at hk; have := (HD.out _ h).2.2; omega)
          have hz5 : W.heap.size ≤ W'.heap.size := Nat.le_trans HSt.out.size (Nat.le_trans (by rw [World.size_alloc]; exact Nat.le_succ _) (Nat.le_trans HT4.out.size HT'.out.size))
          have HS5 := Lib.hid (HS4.out.kept HT'.out (fun k h => (HD.out _ h).1) (fun h => (HD.out _ h).2.1 rfl))
          have hc5 := hb5.cell
          have hl5 := hb5.lt
          have HB5 := Lib.hid hb5
          have HR5 := Lib.hid hr5
          have hvw5 := hvk.2.2
          clear hb5 hr5 hvk
          gi_wp2
          go_wp2_with (at_builtin; refine wpList_append_fits _ rfl (.tmp 50) (.tmp 52) 26 rfl W.heap.size 40 i0 1 underU64s HI.out HZ1.out W.heap.size j ops.length _ rfl (HR5.out.alloc _) ⟨W'.heap.size, 0, none⟩ 1 1 [.int .u64 (U x)] rfl rfl (cell_one_new _ _ _) (by intro u hu; simp at hu; subst hu; rfl) (by omega) ?_; intro w6 hown6 hgrow6; have hb6 : Boxed w6 vb 26 (.slice (some ⟨W.heap.size, 0, none⟩) j ops.length) := (HB5.out.alloc _).kept hgrow6 (by simp; omega); have hc6 := hb6.cell; have hf6 := hb6.frozen; have hl6 := hb6.lt; have HO6 := Lib.hid hown6; have HG6 := Lib.hid hgrow6; have HB6 := Lib.hid hb6; clear hown6 hgrow6 hb6)
          go_roundw
          case measure => simp [intOf]; omega
          case rel =>
            have hh := HVK.out
            have hs := HS.out
            exact ⟨j + 1, by omega, by simp, ItSt.next ho HX.out HJ.out HJ'.out HS5.out HO6.out HG6.out HB6.out hs.hi hh.2.2 hz5 hs.below.size⟩
        · have hco := HS3.out.co
          obtain ⟨y, l', hyl⟩ : ∃ y l', opened.drop (kn (ops.take j) 12) = y :: l' := by
            have h1 := kn_lt ho (k := 12) rfl
            have h2 := HO.out rfl
            cases he : opened.drop (kn (ops.take j) 12) with
            | nil => have := congrArg List.length he; rw [List.length_drop, h2] at this; simp at this; omega
            | cons y l' => exact ⟨y, l', rfl⟩
          simp only [if_true, hyl] at hco
          obtain ⟨a2, cap2, g0, g1, g2, g3⟩ := hco
          have HG3 := Lib.hid g3
          have f2 := HS3.out.f2
          have HYL := Lib.hid hyl
          clear hyl g3
          go_wp2_with fail
          refine (next_any w0 sb 2 a2 cap2 y l' w3 g0 f2 g1 g2 HG3.out HS3.out.below).mono ?_
          rintro e w4 ⟨rfl, a', cap', h3, h4, h5, hw4⟩
          have HS4 : Hid (SrcAt w0 w4 sb keys (masks.drop (kn (ops.take (j + 1)) 1)) (if true = true then opened.drop (kn (ops.take (j + 1)) 12) else opened) true) := Lib.hid (by
            rw [kn_step ho 1, kn_step ho 12, hw4]
            have e1 : opened.drop (kn (ops.take j) 12 + 1) = l' := by rw [← List.tail_drop, HYL.out]; rfl
            have := (HS3.out.setO h3 h4 h5)
            simpa [e1] using this)
          have HT4 : Hid (Touch (fun k => k = sb) (wr.alloc box) w4) := Lib.hid (by rw [hw4]; exact HT3.out.trans (Touch.setCell _ _ _ _ rfl))
          clear h5 hw4
          go_upto_region 8 with (fail)
          obtain ⟨x, hx⟩ : ∃ x, y = x := ⟨_, rfl⟩
          have HX : Hid (stepV true keys opened masks (upV true keys opened masks ops j) (kn (ops.take j) 1) (kn (ops.take j) 12) ⟨12, dom, ra, rb, rd, U cc⟩ = x) := Lib.hid (by
            rw [← hx]
            have e1 : opened.getD (kn (ops.take j) 12) 0 = (opened.drop (kn (ops.take j) 12)).getD 0 0 := by simp [List.getD]
            simp only [stepV, and_self, if_true]
            rw [e1, HYL.out]; rfl)
          rw [hx]
          clear hx
          have hJ4 : J (upV true keys opened masks ops j) w4 := HJ.out _ _ _ HSt.out.inv ((Touch.alloc _ wr box).trans (HT4.out.mono (fun k _ h => .inl h)))
          obtain ⟨fn, tmps, assign, body, hy, hR⟩ := HY.out _ x w4 hJ4 (by rw [HUL.out]; exact hlt)
          clear hJ4
          refine (wpIn_wide (n := 10)).1 ?_
          gi_wp2
          refine hR.mono ?_
          rintro e W' ⟨rfl, hJ', ht'⟩
          clear hy hR
          have HJ' := Lib.hid hJ'
          have HT' := Lib.hid ht'
          clear hJ' ht'
          have hvk := HVK.out
          have hb5 : Boxed W' vb 26 (.slice (some ⟨W.heap.size, 0, none⟩) j ops.length) := boxed_touch (boxed_touch (HSt.out.box.alloc box) HT4.out hvk.1) HT'.out (fun h => by have := (HD.out _ h).2.2; omega)
          have hr5 : W'.ownsRow W.heap.size 40 1 (.slice (some ⟨W.heap.size, 0, none⟩) j ops.length) j ((upV true keys opened masks ops j).map fun x => .int .u64 (U x)) :=
            ownsRow_touch (ownsRow_touch (HSt.out.row.alloc box) HT4.out (fun k hk h => by simp [Value.ownBlock] at hk; have := hvk.2; omega)) HT'.out (fun k hk h => by simp [Value.ownBlock] at hk; have := (HD.out _ h).2.2; omega)
          have hz5 : W.heap.size ≤ W'.heap.size := Nat.le_trans HSt.out.size (Nat.le_trans (by rw [World.size_alloc]; exact Nat.le_succ _) (Nat.le_trans HT4.out.size HT'.out.size))
          have HS5 := Lib.hid (HS4.out.kept HT'.out (fun k h => (HD.out _ h).1) (fun h => (HD.out _ h).2.1 rfl))
          have hc5 := hb5.cell
          have hl5 := hb5.lt
          have HB5 := Lib.hid hb5
          have HR5 := Lib.hid hr5
          have hvw5 := hvk.2.2
          clear hb5 hr5 hvk
          gi_wp2
          go_wp2_with (at_builtin; refine wpList_append_fits _ rfl (.tmp 50) (.tmp 52) 26 rfl W.heap.size 40 i0 1 underU64s HI.out HZ1.out W.heap.size j ops.length _ rfl (HR5.out.alloc _) ⟨W'.heap.size, 0, none⟩ 1 1 [.int .u64 (U x)] rfl rfl (cell_one_new _ _ _) (by intro u hu; simp at hu; subst hu; rfl) (by omega) ?_; intro w6 hown6 hgrow6; have hb6 : Boxed w6 vb 26 (.slice (some ⟨W.heap.size, 0, none⟩) j ops.length) := (HB5.out.alloc _).kept hgrow6 (by simp; omega); have hc6 := hb6.cell; have hf6 := hb6.frozen; have hl6 := hb6.lt; have HO6 := Lib.hid hown6; have HG6 := Lib.hid hgrow6; have HB6 := Lib.hid hb6; clear hown6 hgrow6 hb6)
          go_roundw
          case measure => simp [intOf]; omega
          case rel =>
            have hh := HVK.out
            have hs := HS.out
            exact ⟨j + 1, by omega, by simp, ItSt.next ho HX.out HJ.out HJ'.out HS5.out HO6.out HG6.out HB6.out hs.hi hh.2.2 hz5 hs.below.size⟩
      · have hkb : (kind == 12) = false := by simpa using hk
        have HK := Lib.hid hk
        clear hk
        go_upto_region 8 with (fail)
        obtain ⟨x, hx⟩ : ∃ x, evalW kind cc (atV (upV bl keys opened masks ops j) ra) (atV (upV bl keys opened masks ops j) rb) (atV (upV bl keys opened masks ops j) rd) (outV bl keys (List.drop (kn (List.take j ops) 1) masks) 0 kind cc) = x := ⟨_, rfl⟩
        rw [hx]
        have HX : Hid (stepV bl keys opened masks (upV bl keys opened masks ops j) (kn (ops.take j) 1) (kn (ops.take j) 12) ⟨kind, dom, ra, rb, rd, U cc⟩ = x) := Lib.hid (by rw [← hx, outV_drop]; simp [stepV, HCW.out, HK.out])
        clear hx
        have HS4 : Hid (SrcAt w0 w3 sb keys (masks.drop (kn (ops.take (j + 1)) 1)) (if bl = true then opened.drop (kn (ops.take (j + 1)) 12) else opened) bl) := Lib.hid (by
          rw [kn_step ho 1, kn_step ho 12]
          have h := HS3.out
          dsimp only
          rw [if_neg HK.out]
          by_cases h1 : kind = 1
          · rw [if_pos h1] at h ⊢; rwa [List.tail_drop] at h
          · rw [if_neg h1] at h ⊢; exact h)
        have HT4 := HT3
        obtain ⟨w4, rfl⟩ : ∃ w4, w4 = w3 := ⟨_, rfl⟩
        have hJ4 : J (upV bl keys opened masks ops j) w4 := HJ.out _ _ _ HSt.out.inv ((Touch.alloc _ wr box).trans (HT4.out.mono (fun k _ h => .inl h)))
        obtain ⟨fn, tmps, assign, body, hy, hR⟩ := HY.out _ x w4 hJ4 (by rw [HUL.out]; exact hlt)
        clear hJ4
        refine (wpIn_wide (n := 10)).1 ?_
        gi_wp2
        refine hR.mono ?_
        rintro e W' ⟨rfl, hJ', ht'⟩
        clear hy hR
        have HJ' := Lib.hid hJ'
        have HT' := Lib.hid ht'
        clear hJ' ht'
        have hvk := HVK.out
        have hb5 : Boxed W' vb 26 (.slice (some ⟨W.heap.size, 0, none⟩) j ops.length) := boxed_touch (boxed_touch (HSt.out.box.alloc box) HT4.out hvk.1) HT'.out (fun h => by have := (HD.out _ h).2.2; omega)
        have hr5 : W'.ownsRow W.heap.size 40 1 (.slice (some ⟨W.heap.size, 0, none⟩) j ops.length) j ((upV bl keys opened masks ops j).map fun x => .int .u64 (U x)) :=
          ownsRow_touch (ownsRow_touch (HSt.out.row.alloc box) HT4.out (fun k hk h => by simp [Value.ownBlock] at hk; have := hvk.2; omega)) HT'.out (fun k hk h => by simp [Value.ownBlock] at hk; have := (HD.out _ h).2.2; omega)
        have hz5 : W.heap.size ≤ W'.heap.size := Nat.le_trans HSt.out.size (Nat.le_trans (by rw [World.size_alloc]; exact Nat.le_succ _) (Nat.le_trans HT4.out.size HT'.out.size))
        have HS5 := Lib.hid (HS4.out.kept HT'.out (fun k h => (HD.out _ h).1) (fun h => (HD.out _ h).2.1 rfl))
        have hc5 := hb5.cell
        have hl5 := hb5.lt
        have HB5 := Lib.hid hb5
        have HR5 := Lib.hid hr5
        have hvw5 := hvk.2.2
        clear hb5 hr5 hvk
        gi_wp2
        go_wp2_with (at_builtin; refine wpList_append_fits _ rfl (.tmp 50) (.tmp 52) 26 rfl W.heap.size 40 i0 1 underU64s HI.out HZ1.out W.heap.size j ops.length _ rfl (HR5.out.alloc _) ⟨W'.heap.size, 0, none⟩ 1 1 [.int .u64 (U x)] rfl rfl (cell_one_new _ _ _) (by intro u hu; simp at hu; subst hu; rfl) (by omega) ?_; intro w6 hown6 hgrow6; have hb6 : Boxed w6 vb 26 (.slice (some ⟨W.heap.size, 0, none⟩) j ops.length) := (HB5.out.alloc _).kept hgrow6 (by simp; omega); have hc6 := hb6.cell; have hf6 := hb6.frozen; have hl6 := hb6.lt; have HO6 := Lib.hid hown6; have HG6 := Lib.hid hgrow6; have HB6 := Lib.hid hb6; clear hown6 hgrow6 hb6)
        go_roundw
        case measure => simp [intOf]; omega
        case rel =>
          have hh := HVK.out
          have hs := HS.out
          exact ⟨j + 1, by omega, by simp, ItSt.next ho HX.out HJ.out HJ'.out HS5.out HO6.out HG6.out HB6.out hs.hi hh.2.2 hz5 hs.below.size⟩
    · obtain rfl : j = ops.length := by omega
      have hi := hst.inv
      have HI' := Lib.hid hi
      clear hst hi
      go_wp2_with fail
      go_end0
      exact ⟨⟨_, rfl⟩, HI'.out⟩
end Go.Proofs.Ytdlmijcnjjdbbaa
