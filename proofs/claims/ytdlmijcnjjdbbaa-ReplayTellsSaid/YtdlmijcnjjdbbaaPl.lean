/- visorref29.Play: the document's words of a trace. Conditions: each lemma's own. -/
import Derived.Test.YtdlmijcnjjdbbaaRu
import Derived.Test.YtdlmijcnjjdbbaaRev
namespace Go.Proofs.Ytdlmijcnjjdbbaa
open Go Go.RowKit

def toldN (bl : Bool) (k : Nat) : Nat := if bl = true then k else 0
theorem reval0 (k dom ra rb rd : Int) (c a b d z : W64) (hz : z = 0) (w : World) :
    Calls Try.prog 27 #[.agg #[.int .i64 k, .int .i64 dom, .int .i64 ra, .int .i64 rb, .int .i64 rd, .int .u64 (U c)], .int .u64 (U a), .int .u64 (U b), .int .u64 (U d), .int .u64 0] w (EvalPost k c a b d z w) := by
  subst hz
  have h := reval_any k dom ra rb rd c a b d 0 w
  rw [U_zero] at h
  exact h
theorem stepV_eval {bl : Bool} {keys opened masks v : List W64} {m t : Nat} {k dom ra rb rd c : Int} {cc x0 y : W64} (h : ¬ (k = 12 ∧ bl = true)) (hc : cw ⟨k, dom, ra, rb, rd, c⟩ = cc) (h0 : outV bl keys masks m k cc = x0)
    (hy : evalW k cc (atV v ra) (atV v rb) (atV v rd) x0 = y) : stepV bl keys opened masks v m t ⟨k, dom, ra, rb, rd, c⟩ = y := by
  unfold stepV
  rw [if_neg h, hc, h0, hy]
/-- Words, and then zeros. -/
def fillV (v : List W64) (L : Nat) : List W64 := v ++ List.replicate (L - v.length) 0
theorem fillV_length {v : List W64} {L : Nat} (h : v.length ≤ L) : (fillV v L).length = L := by unfold fillV; simp; omega
theorem fillV_at (v : List W64) (L : Nat) (r : Int) : atV (fillV v L) r = atV v r := by
  unfold atV fillV
  split
  · rfl
  · rw [List.getD, List.getD]
    by_cases h : r.toNat < v.length
    · rw [List.getElem?_append_left h]
    · rw [List.getElem?_append_right (by omega), List.getElem?_eq_none (l := v) (by omega), List.getElem?_replicate]
      split <;> rfl
theorem fillV_set {v : List W64} {L : Nat} (h : v.length < L) (x : W64) : (fillV v L).set v.length x = fillV (v ++ [x]) L := by
  unfold fillV
  rw [List.set_append_right _ _ (Nat.le_refl _), Nat.sub_self]
  obtain ⟨k, hk⟩ : ∃ k, L - v.length = k + 1 := ⟨L - v.length - 1, by omega⟩
  have hk2 : L - (v ++ [x]).length = k := by simp; omega
  rw [hk, hk2, List.replicate_succ]
  simp
theorem fillV_all {v : List W64} {L : Nat} (h : v.length = L) : fillV v L = v := by unfold fillV; simp [h]
theorem madeU (L : Nat) : (madeCells (Value.int .u64 0).cells (L * 1)).toList = ((fillV [] L).map fun x => Value.int .u64 (U x)) := by
  have e : U (0#64) = 0 := U_zero
  unfold fillV
  refine List.ext_getElem (by simp [madeCells, Value.cells]) fun i h1 h2 => ?_
  simp [madeCells, Value.cells, e, Nat.mod_one]

structure PlSt (w : World) (n : Int) (oa : Option Addr) (oc : Nat) (ba : Option Addr) (bn bc : Nat) (ops : List OpV) (V : List W64) (wr : World) : Prop where
  box : TrBox w w.heap.size n oa ops.length oc ba bn bc wr
  row : wr.ownsRow (w.heap.size + 1) 40 1 (.slice (some ⟨w.heap.size + 1, 0, none⟩) ops.length ops.length) ops.length ((fillV V ops.length).map fun x => .int .u64 (U x))

def PlayPost (xs : List W64) (w : World) (e : Ending) (w' : World) : Prop := ∃ v, e = .returned v ∧ w'.ownsRow w.heap.size 40 1 v xs.length (xs.map fun x => .int .u64 (U x)) ∧ Below w.heap.size w w'

theorem outV_key {keys masks : List W64} {m : Nat} {c x : W64} (h : keys[c.toNat]? = some x) : outV false keys masks m 2 c = x := by
  unfold outV
  rw [if_neg (by omega), if_pos ⟨rfl, rfl⟩, List.getD, h]; rfl
theorem outV_mask {bl : Bool} {keys masks : List W64} {m : Nat} {c x : W64} (h : masks[m]? = some x) : outV bl keys masks m 1 c = x := by
  unfold outV
  rw [if_pos rfl, List.getD, h]; rfl
theorem outV_none {bl : Bool} {keys masks : List W64} {m : Nat} {k : Int} {c : W64} (h1 : k ≠ 1) (h2 : ¬ (k = 2 ∧ bl = false)) : outV bl keys masks m k c = 0 := by
  unfold outV
  rw [if_neg h1, if_neg h2]

theorem TrBox.touch {w : World} {b : Nat} {n : Int} {oa : Option Addr} {ol oc : Nat} {ba : Option Addr} {bl bc : Nat} {w' w'' : World} {D : Nat → Prop} (h : TrBox w b n oa ol oc ba bl bc w') (ht : Touch D w' w'') (hd : ∀ k, D k → w.heap.size ≤ k) (hb : ¬ D b) : TrBox w b n oa ol oc ba bl bc w'' :=
  ⟨h.below.trans (ht.below hd h.below.size), h.ge, Nat.lt_of_lt_of_le h.lt ht.size, (ht.cell (p := ⟨b, 0, none⟩) h.lt hb).trans h.x0, (ht.cell (p := ⟨b, 1, none⟩) h.lt hb).trans h.x1, (ht.cell (p := ⟨b, 2, none⟩) h.lt hb).trans h.x2⟩
theorem PlSt.next {w : World} {n : Int} {oa : Option Addr} {oc : Nat} {ba : Option Addr} {bn bc : Nat} {ops : List OpV} {V : List W64} {wr w4 : World} {j : Nat} {x : W64} (h : PlSt w n oa oc ba bn bc ops V wr) (hV : V.length = j) (hj : j < ops.length) (ht : Touch (fun k => k = w.heap.size + 1) wr w4)
    (hr : w4.ownsRow (w.heap.size + 1) 40 1 (.slice (some ⟨w.heap.size + 1, 0, none⟩) ops.length ops.length) ops.length (((fillV V ops.length).map fun x => Value.int .u64 (U x)).set j (.int .u64 (U x)))) : PlSt w n oa oc ba bn bc ops (V ++ [x]) w4 := by
  refine ⟨h.box.touch ht (fun k hk => by omega) (by omega), ?_⟩
  subst hV
  rw [← fillV_set hj x, List.map_set]
  exact hr
theorem word_fill (V : List W64) (L : Nat) (hV : V.length ≤ L) (r : Int) (a : Option Addr) (cap : Nat) (w : World) (hm : L ≤ maxLen) (hw : WordsAt w a (fillV V L)) :
    Calls Try.prog 15 #[.slice a L cap, .int .i64 r] w fun e w' => e = .returned (.int .u64 (U (atV V r))) ∧ w = w' := by
  have h := word_any (fillV V L) r a cap w (by rw [fillV_length hV]; exact hm) hw
  rw [fillV_length hV, fillV_at] at h
  exact h

set_option maxRecDepth 100000 in
set_option maxHeartbeats 8000000 in
theorem play_any (bl : Bool) (keys opened masks : List W64) (n : Int) (oa : Option Addr) (oc : Nat) (ops : List OpV) (ba : Option Addr) (bn bc : Nat) (ka : Option Addr) (kc : Nat) (ma : Option Addr) (mc : Nat) (ta : Option Addr) (tc : Nat) (w : World)
    (hT : OpsAt w oa ops) (hlen : ops.length ≤ 1048576) (hk : WordsAt w ka keys) (hkl : keys.length ≤ maxLen) (hmw : WordsAt w ma masks) (hml : masks.length ≤ maxLen) (hto : WordsAt w ta opened) (htl : opened.length ≤ maxLen)
    (hwf : ∀ o ∈ ops, o.Wf) (hreg : ∀ (j : Nat) (o : OpV), ops[j]? = some o → o.a < (j : Int) ∧ o.b < (j : Int) ∧ o.d < (j : Int)) (hkey : ∀ o ∈ ops, o.kind = 2 → bl = false → (cw o).toNat < keys.length) (hm : masks.length = kn ops 1) (ho : bl = true → opened.length = kn ops 12) :
    Calls Try.prog 11 #[.agg #[.int .i64 n, .slice oa ops.length oc, .slice ba bn bc], .slice ka keys.length kc, .slice ta opened.length tc, .slice ma masks.length mc, .bool bl] w (PlayPost (upV bl keys opened masks ops ops.length) w) := by
  obtain ⟨i0, hi, hz0, hz1, hz2⟩ := info_parts infoU64
  have HI := Lib.hid hi; have HZ0 := Lib.hid hz0; have HZ1 := Lib.hid hz1; have HZ2 := Lib.hid hz2
  have HT := Lib.hid hT; have HWF := Lib.hid hwf; have HREG := Lib.hid hreg; have HKEY := Lib.hid hkey; have HM := Lib.hid hm; have HO := Lib.hid ho; have HK := Lib.hid hk; have HMW := Lib.hid hmw; have HTO := Lib.hid hto
  clear hi hz0 hz1 hz2 hT hwf hreg hkey hm ho hk hmw hto
  go_enter Try.func11, Try.ntmps11
  go_wp2_with (at_make; refine wpList_make_full _ rfl _ _ 26 rfl (w.heap.size + 1) 40 i0 (.int .u64 0) 1 underU64s HI.out HZ0.out HZ1.out .i64 .i64 _ _ ops.length rfl rfl rfl rfl (by rw [HZ2.out]; omega) (by unfold maxLen; omega) (by simp) ?_; intro w1 hown hgrow; rw [madeU] at hown; simp only [World.size_alloc] at hown)
  go_loopw [12, 13, 14] (fun dr td i wr => ∃ j : Nat, j ≤ ops.length ∧ i = .int .i64 j ∧ dr = .int .i64 ((kn (ops.take j) 1 : Nat) : Int) ∧ td = .int .i64 ((toldN bl (kn (ops.take j) 12) : Nat) : Int) ∧ PlSt w n oa oc ba bn bc ops (upV bl keys opened masks ops j) wr) (fun _ _ i _ => ops.length - (intOf i).toNat)
  case atStart =>
    refine ⟨0, by omega, rfl, by simp [kn], by simp [kn, toldN], ?_, hown⟩
    exact (TrBox.new n oa ops.length oc ba bn bc w 25).kept ((Below.refl _ _).grown hgrow (Nat.le_refl _) (fun k e => by cases e))
  case round =>
    obtain ⟨j, hj, rfl, rfl, rfl, hst⟩ := hrel
    have t1 := hst.box.x1
    have tl := hst.box.lt
    by_cases hlt : j < ops.length
    · obtain ⟨o, ho⟩ : ∃ o, ops[j]? = some o := ⟨_, List.getElem?_eq_getElem hlt⟩
      obtain ⟨b, off, rfl, hb, c0, c1, c2, c3, c4, c5⟩ := HT.out.at ho
      have hB := hst.box.below
      have q0 := (hB.cell (p := ⟨b, off + j * 6, none⟩) hb).trans c0
      have q1 := (hB.cell (p := ⟨b, off + j * 6 + 1, none⟩) hb).trans c1
      have q2 := (hB.cell (p := ⟨b, off + j * 6 + 2, none⟩) hb).trans c2
      have q3 := (hB.cell (p := ⟨b, off + j * 6 + 3, none⟩) hb).trans c3
      have q4 := (hB.cell (p := ⟨b, off + j * 6 + 4, none⟩) hb).trans c4
      have q5 := (hB.cell (p := ⟨b, off + j * 6 + 5, none⟩) hb).trans c5
      clear c0 c1 c2 c3 c4 c5
      have hwo := HWF.out o (List.mem_of_getElem? ho)
      have hro := HREG.out j o ho
      have hko := HKEY.out o (List.mem_of_getElem? ho)
      obtain ⟨kind, dom, ra, rb, rd, c⟩ := o
      obtain ⟨cc, rfl⟩ := U_of hwo.c
      dsimp only at q0 q1 q2 q3 q4 q5 hro hko
      have hcw : cw ⟨kind, dom, ra, rb, rd, U cc⟩ = cc := ofInt_U cc
      rw [hcw] at hko
      have HCW := Lib.hid hcw
      have HKO := Lib.hid hko
      have hul := upV_length (bl := bl) (keys := keys) (opened := opened) (masks := masks) (Nat.le_of_lt hlt)
      have HUL := Lib.hid hul
      have hknl : kn (ops.take j) 1 ≤ 1048576 := Nat.le_trans (List.countP_le_length) (by rw [List.length_take]; omega)
      have hknt : kn (ops.take j) 12 ≤ 1048576 := Nat.le_trans (List.countP_le_length) (by rw [List.length_take]; omega)
      obtain ⟨box, hbox⟩ : ∃ box, Obj.cells #[.int .i64 kind, .int .i64 dom, .int .i64 ra, .int .i64 rb, .int .i64 rd, .int .u64 (U cc)] 60 = box := ⟨_, rfl⟩
      have HVW : Hid (WordsAt (wr.alloc box) (some ⟨w.heap.size + 1, 0, none⟩) (fillV (upV bl keys opened masks ops j) ops.length)) := Lib.hid (by
        have h := hst.row.alloc box
        obtain ⟨_, a, cap, e, _, _, h⟩ := ownsRow_words h
        cases e; exact h)
      have hg : w.heap.size + 1 < wr.heap.size := (World.ownsRow.lt hst.row (w.heap.size + 1) rfl).2
      have HC : Hid (∀ w', Touch (fun k => k = w.heap.size + 1) (wr.alloc box) w' → w'.cell? ⟨wr.heap.size, 0, none⟩ = some (.int .i64 kind) ∧ w'.cell? ⟨wr.heap.size, 1, none⟩ = some (.int .i64 dom) ∧ w'.cell? ⟨wr.heap.size, 2, none⟩ = some (.int .i64 ra) ∧
          w'.cell? ⟨wr.heap.size, 3, none⟩ = some (.int .i64 rb) ∧ w'.cell? ⟨wr.heap.size, 4, none⟩ = some (.int .i64 rd) ∧ w'.cell? ⟨wr.heap.size, 5, none⟩ = some (.int .u64 (U cc))) := Lib.hid (by
        intro w' ht
        have hlt : wr.heap.size < (wr.alloc box).heap.size := by rw [World.size_alloc]; exact Nat.lt_succ_self _
        have hne : ¬ wr.heap.size = w.heap.size + 1 := by omega
        rw [ht.cell (p := ⟨wr.heap.size, 0, none⟩) hlt hne, ht.cell (p := ⟨wr.heap.size, 1, none⟩) hlt hne, ht.cell (p := ⟨wr.heap.size, 2, none⟩) hlt hne, ht.cell (p := ⟨wr.heap.size, 3, none⟩) hlt hne, ht.cell (p := ⟨wr.heap.size, 4, none⟩) hlt hne, ht.cell (p := ⟨wr.heap.size, 5, none⟩) hlt hne]
        rw [← hbox]
        exact ⟨World.cell?_alloc_mark _ _ _ _ _, World.cell?_alloc_mark _ _ _ _ _, World.cell?_alloc_mark _ _ _ _ _, World.cell?_alloc_mark _ _ _ _ _, World.cell?_alloc_mark _ _ _ _ _, World.cell?_alloc_mark _ _ _ _ _⟩)
      have HSt := Lib.hid hst
      have HLM : Hid (ops.length ≤ maxLen) := Lib.hid (by unfold maxLen; omega)
      have HUL2 : Hid ((upV bl keys opened masks ops j).length ≤ ops.length) := Lib.hid (by omega)
      have HR1 : Hid (∃ z : W64, ((fillV (upV bl keys opened masks ops j) ops.length).map fun x => Value.int .u64 (U x))[j]? = some (.int .u64 (U z))) := Lib.hid (by
        have hl : j < (fillV (upV bl keys opened masks ops j) ops.length).length := by rw [fillV_length (by omega)]; exact hlt
        exact ⟨(fillV (upV bl keys opened masks ops j) ops.length)[j], by rw [List.getElem?_map, List.getElem?_eq_getElem hl]; rfl⟩)
      have HB := Lib.hid hB
      clear hst hwo hko hcw hro hul hB
      by_cases hk1 : kind = 1
      · subst hk1
        have hmlt : kn (ops.take j) 1 < masks.length := by rw [HM.out]; exact kn_lt (k := 1) ho rfl
        have hx : masks[kn (ops.take j) 1]? = some masks[kn (ops.take j) 1] := List.getElem?_eq_getElem hmlt
        obtain ⟨b', off', rfl, hb', c0⟩ := HMW.out.at hx
        have m0 := (HB.out.cell (p := ⟨b', off' + kn (ops.take j) 1, none⟩) hb').trans c0
        have hbw' : b' < wr.heap.size := Nat.lt_of_lt_of_le hb' HB.out.size
        generalize masks[kn (ops.take j) 1] = x0 at *
        have HX0 : Hid (outV bl keys masks (kn (ops.take j) 1) 1 cc = x0) := Lib.hid (outV_mask hx)
        have HKN1 : Hid (kn (ops.take (j + 1)) 1 = kn (ops.take j) 1 + 1) := Lib.hid (by rw [kn_step ho]; rfl)
        have HKN12 : Hid (kn (ops.take (j + 1)) 12 = kn (ops.take j) 12) := Lib.hid (by rw [kn_step ho]; rfl)
        have HE : Hid (¬ ((1 : Int) = 12 ∧ bl = true)) := Lib.hid (by omega)
        clear hx c0
        obtain ⟨f0, _, _, _, _, f5⟩ := HC.out _ (Touch.refl _ _)
        go_upto_region 13 with (fail)
        clear f0 f5
        try rw [hbox]
        have HBX := Lib.hid hbox
        clear hbox
        go_region_held3 (fun w' => w'.cell? ⟨wr.heap.size, 0, none⟩ = some (.int .i64 1) ∧ w'.cell? ⟨wr.heap.size, 1, none⟩ = some (.int .i64 dom) ∧ w'.cell? ⟨wr.heap.size, 2, none⟩ = some (.int .i64 ra) ∧
            w'.cell? ⟨wr.heap.size, 3, none⟩ = some (.int .i64 rb) ∧ w'.cell? ⟨wr.heap.size, 4, none⟩ = some (.int .i64 rd) ∧ w'.cell? ⟨wr.heap.size, 5, none⟩ = some (.int .u64 (U cc)))
          (first | exact HF.out | exact HC.out _ (touch_drew _ _ 1) | exact HC.out _ (HT3.out.trans (Touch.setCell _ _ _ _ rfl)))
          (first
            | (go_at_call 15; refine (word_fill (upV bl keys opened masks ops j) ops.length HUL2.out _ _ _ _ HLM.out (by exact HVW.out)).mono ?_; rintro e w' ⟨rfl, rfl⟩)
            | (go_at_call 27; refine (reval_any 1 dom ra rb rd cc _ _ _ x0 _).mono ?_; rintro e w3 ⟨rfl, hb3⟩; have HT3 := Lib.hid ((touch_drew (fun k => k = w.heap.size + 1) (wr.alloc box) 1).trans (Touch.of_below (D := fun k => k = w.heap.size + 1) hb3 (fun k h1 h2 => absurd h2 (Nat.not_lt.2 h1)))); have HF := Lib.hid (HC.out _ HT3.out);
               have hr3 := ownsRow_touch (HSt.out.row.alloc box) (Touch.of_below (D := fun _ => False) (((below_drewN' (W := wr.alloc box) 1)).trans hb3) (fun k h1 h2 => absurd h2 (Nat.not_lt.2 h1))) (fun k _ h => h); have HR3 := Lib.hid hr3; obtain ⟨z3, hz3⟩ := HR1.out; have hc3 := (hr3.cellAt j (by omega)).trans hz3; have hf3 := hr3.frozenAt j; clear hb3 hr3 hz3))
        obtain ⟨y, hy⟩ : ∃ y, evalW 1 cc (atV (upV bl keys opened masks ops j) ra) (atV (upV bl keys opened masks ops j) rb) (atV (upV bl keys opened masks ops j) rd) x0 = y := ⟨_, rfl⟩
        rw [hy]
        have HY := Lib.hid hy
        clear hy
        obtain ⟨w4, hw4⟩ : ∃ w4, w3.setCell ⟨w.heap.size + 1, j, none⟩ (.int .u64 (U y)) = w4 := ⟨_, rfl⟩
        rw [hw4]
        have HT4 : Hid (Touch (fun k => k = w.heap.size + 1) (wr.alloc box) w4) := Lib.hid (by rw [← hw4]; exact HT3.out.trans (Touch.setCell _ _ _ _ rfl))
        have hr4 : w4.ownsRow (w.heap.size + 1) 40 1 (.slice (some ⟨w.heap.size + 1, 0, none⟩) ops.length ops.length) ops.length (((fillV (upV bl keys opened masks ops j) ops.length).map fun x => Value.int .u64 (U x)).set j (.int .u64 (U y))) := by rw [← hw4]; exact (HR3.out.stored j _).1
        have HR4 := Lib.hid hr4
        have hc4 : w4.cell? ⟨w.heap.size + 1, j, none⟩ = some (.int .u64 (U y)) := (hr4.cellAt j (by omega)).trans (by obtain ⟨z3, hz3⟩ := HR1.out; rw [List.getElem?_set_self (List.getElem?_eq_some_iff.1 hz3).1])
        have hf4 := hr4.frozenAt j
        obtain ⟨f0, _⟩ := HC.out _ HT4.out
        have hs4 : wr.heap.size < w4.heap.size := Nat.lt_of_lt_of_le (by rw [World.size_alloc]; exact Nat.lt_succ_self _) HT4.out.size
        clear hw4 hr4 hc3 hf3
        go_wp2_with fail
        go_roundw
        case rel =>
          have hs : stepV bl keys opened masks (upV bl keys opened masks ops j) (kn (ops.take j) 1) (kn (ops.take j) 12) _ = y := stepV_eval (by first | exact HE.out | simp) HCW.out HX0.out HY.out
          have hf := HSt.out.next HUL.out hlt ((Touch.alloc _ wr box).trans HT4.out) HR4.out
          rw [← hs, ← upV_step ho] at hf
          exact ⟨j + 1, by omega, by simp, (by rw [HKN1.out]; first | done | simp), by rw [HKN12.out], hf⟩
        case measure => simp [intOf]; omega
      · have hk1b : (kind == 1) = false := by simpa using hk1
        have HKN1 : Hid (kn (ops.take (j + 1)) 1 = kn (ops.take j) 1) := Lib.hid (by rw [kn_step ho, if_neg hk1]; rfl)
        by_cases hk2 : kind = 2 ∧ bl = false
        · obtain ⟨rfl, rfl⟩ := hk2
          have hcl := HKO.out rfl rfl
          have hx : keys[cc.toNat]? = some keys[cc.toNat] := List.getElem?_eq_getElem hcl
          obtain ⟨b', off', rfl, hb', c0⟩ := HK.out.at hx
          have hcn : (U cc).toNat = cc.toNat := by unfold U; simp
          have m0 := (HB.out.cell (p := ⟨b', off' + cc.toNat, none⟩) hb').trans c0
          generalize keys[cc.toNat] = x0 at *
          have HX0 : Hid (outV false keys masks (kn (ops.take j) 1) 2 cc = x0) := Lib.hid (outV_key hx)
          rw [← hcn] at m0 hcl
          have hbw' : b' < wr.heap.size := Nat.lt_of_lt_of_le hb' HB.out.size
          have hu0 := U_nonneg cc
          have hul : U cc < keys.length := by omega
          have HKN12 : Hid (kn (ops.take (j + 1)) 12 = kn (ops.take j) 12) := Lib.hid (by rw [kn_step ho]; rfl)
          have HE : Hid (¬ ((2 : Int) = 12 ∧ false = true)) := Lib.hid (by omega)
          unfold maxLen at hkl
          clear hx c0 hcn hk1
          obtain ⟨f0, _, _, _, _, f5⟩ := HC.out _ (Touch.refl _ _)
          go_upto_region 13 with (fail)
          clear f0 f5
          try rw [hbox]
          have HBX := Lib.hid hbox
          clear hbox
          go_region_held3 (fun w' => w'.cell? ⟨wr.heap.size, 0, none⟩ = some (.int .i64 2) ∧ w'.cell? ⟨wr.heap.size, 1, none⟩ = some (.int .i64 dom) ∧ w'.cell? ⟨wr.heap.size, 2, none⟩ = some (.int .i64 ra) ∧
              w'.cell? ⟨wr.heap.size, 3, none⟩ = some (.int .i64 rb) ∧ w'.cell? ⟨wr.heap.size, 4, none⟩ = some (.int .i64 rd) ∧ w'.cell? ⟨wr.heap.size, 5, none⟩ = some (.int .u64 (U cc)))
            (first | exact HF.out | exact HC.out _ (touch_drew _ _ 1) | exact HC.out _ (HT3.out.trans (Touch.setCell _ _ _ _ rfl)))
            (first
              | (go_at_call 15; refine (word_fill (upV false keys opened masks ops j) ops.length HUL2.out _ _ _ _ HLM.out (by exact HVW.out)).mono ?_; rintro e w' ⟨rfl, rfl⟩)
              | (go_at_call 27; refine (reval_any 2 dom ra rb rd cc _ _ _ x0 _).mono ?_; rintro e w3 ⟨rfl, hb3⟩; have HT3 := Lib.hid ((touch_drew (fun k => k = w.heap.size + 1) (wr.alloc box) 1).trans (Touch.of_below (D := fun k => k = w.heap.size + 1) hb3 (fun k h1 h2 => absurd h2 (Nat.not_lt.2 h1)))); have HF := Lib.hid (HC.out _ HT3.out);
                 have hr3 := ownsRow_touch (HSt.out.row.alloc box) (Touch.of_below (D := fun _ => False) (((below_drewN' (W := wr.alloc box) 1)).trans hb3) (fun k h1 h2 => absurd h2 (Nat.not_lt.2 h1))) (fun k _ h => h); have HR3 := Lib.hid hr3; obtain ⟨z3, hz3⟩ := HR1.out; have hc3 := (hr3.cellAt j (by omega)).trans hz3; have hf3 := hr3.frozenAt j; clear hb3 hr3 hz3))
          obtain ⟨y, hy⟩ : ∃ y, evalW 2 cc (atV (upV false keys opened masks ops j) ra) (atV (upV false keys opened masks ops j) rb) (atV (upV false keys opened masks ops j) rd) x0 = y := ⟨_, rfl⟩
          rw [hy]
          have HY := Lib.hid hy
          clear hy
          obtain ⟨w4, hw4⟩ : ∃ w4, w3.setCell ⟨w.heap.size + 1, j, none⟩ (.int .u64 (U y)) = w4 := ⟨_, rfl⟩
          rw [hw4]
          have HT4 : Hid (Touch (fun k => k = w.heap.size + 1) (wr.alloc box) w4) := Lib.hid (by rw [← hw4]; exact HT3.out.trans (Touch.setCell _ _ _ _ rfl))
          have hr4 : w4.ownsRow (w.heap.size + 1) 40 1 (.slice (some ⟨w.heap.size + 1, 0, none⟩) ops.length ops.length) ops.length (((fillV (upV false keys opened masks ops j) ops.length).map fun x => Value.int .u64 (U x)).set j (.int .u64 (U y))) := by rw [← hw4]; exact (HR3.out.stored j _).1
          have HR4 := Lib.hid hr4
          have hc4 : w4.cell? ⟨w.heap.size + 1, j, none⟩ = some (.int .u64 (U y)) := (hr4.cellAt j (by omega)).trans (by obtain ⟨z3, hz3⟩ := HR1.out; rw [List.getElem?_set_self (List.getElem?_eq_some_iff.1 hz3).1])
          have hf4 := hr4.frozenAt j
          obtain ⟨f0, _⟩ := HC.out _ HT4.out
          have hs4 : wr.heap.size < w4.heap.size := Nat.lt_of_lt_of_le (by rw [World.size_alloc]; exact Nat.lt_succ_self _) HT4.out.size
          clear hw4 hr4 hc3 hf3
          go_wp2_with fail
          go_roundw
          case rel =>
            have hs : stepV false keys opened masks (upV false keys opened masks ops j) (kn (ops.take j) 1) (kn (ops.take j) 12) _ = y := stepV_eval (by first | exact HE.out | simp) HCW.out HX0.out HY.out
            have hf := HSt.out.next HUL.out hlt ((Touch.alloc _ wr box).trans HT4.out) HR4.out
            rw [← hs, ← upV_step ho] at hf
            exact ⟨j + 1, by omega, by simp, (by rw [HKN1.out]; first | done | simp), by rw [HKN12.out], hf⟩
          case measure => simp [intOf]; omega
        · obtain ⟨z0, hz0⟩ : ∃ z0 : W64, z0 = 0 := ⟨0, rfl⟩
          have HX0 : Hid (outV bl keys masks (kn (ops.take j) 1) kind cc = z0) := Lib.hid (by rw [hz0]; exact outV_none hk1 hk2)
          have HZ := Lib.hid hz0
          clear hz0
          by_cases hk12 : kind = 12 ∧ bl = true
          · obtain ⟨rfl, rfl⟩ := hk12
            have hmlt : kn (ops.take j) 12 < opened.length := by rw [HO.out rfl]; exact kn_lt (k := 12) ho rfl
            have hx : opened[kn (ops.take j) 12]? = some opened[kn (ops.take j) 12] := List.getElem?_eq_getElem hmlt
            obtain ⟨b', off', rfl, hb', c0⟩ := HTO.out.at hx
            have HM0 := Lib.hid ((HB.out.cell (p := ⟨b', off' + kn (ops.take j) 12, none⟩) hb').trans c0)
            have hbw' : b' < wr.heap.size := Nat.lt_of_lt_of_le hb' HB.out.size
            have hbw0 : ¬ b' = w.heap.size + 1 := by omega
            generalize opened[kn (ops.take j) 12] = y0 at *
            have HY0 : Hid (opened.getD (kn (ops.take j) 12) 0 = y0) := Lib.hid (by rw [List.getD, hx]; rfl)
            have HKN12 : Hid (kn (ops.take (j + 1)) 12 = kn (ops.take j) 12 + 1) := Lib.hid (by rw [kn_step ho]; rfl)
            have htd : toldN true (kn (ops.take j) 12) = kn (ops.take j) 12 := rfl
            clear hx c0 hk1 hk2
            obtain ⟨f0, _, _, _, _, f5⟩ := HC.out _ (Touch.refl _ _)
            go_upto_region 13 with (fail)
            clear f0 f5
            try rw [hbox]
            have HBX := Lib.hid hbox
            clear hbox
            go_region_held3 (fun w' => w'.cell? ⟨wr.heap.size, 0, none⟩ = some (.int .i64 12) ∧ w'.cell? ⟨wr.heap.size, 1, none⟩ = some (.int .i64 dom) ∧ w'.cell? ⟨wr.heap.size, 2, none⟩ = some (.int .i64 ra) ∧
                w'.cell? ⟨wr.heap.size, 3, none⟩ = some (.int .i64 rb) ∧ w'.cell? ⟨wr.heap.size, 4, none⟩ = some (.int .i64 rd) ∧ w'.cell? ⟨wr.heap.size, 5, none⟩ = some (.int .u64 (U cc)))
              (first | exact HF.out | exact HC.out _ (touch_drew _ _ 1) | exact HC.out _ (HT3.out.trans (Touch.setCell _ _ _ _ rfl)))
              (first
                | (go_at_call 15; refine (word_fill (upV true keys opened masks ops j) ops.length HUL2.out _ _ _ _ HLM.out (by exact HVW.out)).mono ?_; rintro e w' ⟨rfl, rfl⟩)
                | (go_at_call 27; refine (reval0 12 dom ra rb rd cc _ _ _ z0 HZ.out _).mono ?_; rintro e w3 ⟨rfl, hb3⟩; have HT3 := Lib.hid ((touch_drew (fun k => k = w.heap.size + 1) (wr.alloc box) 1).trans (Touch.of_below (D := fun k => k = w.heap.size + 1) hb3 (fun k h1 h2 => absurd h2 (Nat.not_lt.2 h1)))); have HF := Lib.hid (HC.out _ HT3.out);
                   have hr3 := ownsRow_touch (HSt.out.row.alloc box) (Touch.of_below (D := fun _ => False) (((below_drewN' (W := wr.alloc box) 1)).trans hb3) (fun k h1 h2 => absurd h2 (Nat.not_lt.2 h1))) (fun k _ h => h); have HR3 := Lib.hid hr3; obtain ⟨z3, hz3⟩ := HR1.out; have hc3 := (hr3.cellAt j (by omega)).trans hz3; have hf3 := hr3.frozenAt j; clear hb3 hr3 hz3))
            obtain ⟨y, hy⟩ : ∃ y, evalW 12 cc (atV (upV true keys opened masks ops j) ra) (atV (upV true keys opened masks ops j) rb) (atV (upV true keys opened masks ops j) rd) z0 = y := ⟨_, rfl⟩
            rw [hy]
            have HY := Lib.hid hy
            clear hy
            obtain ⟨w4, hw4⟩ : ∃ w4, w3.setCell ⟨w.heap.size + 1, j, none⟩ (.int .u64 (U y)) = w4 := ⟨_, rfl⟩
            rw [hw4]
            have HT4 : Hid (Touch (fun k => k = w.heap.size + 1) (wr.alloc box) w4) := Lib.hid (by rw [← hw4]; exact HT3.out.trans (Touch.setCell _ _ _ _ rfl))
            have hr4 : w4.ownsRow (w.heap.size + 1) 40 1 (.slice (some ⟨w.heap.size + 1, 0, none⟩) ops.length ops.length) ops.length (((fillV (upV true keys opened masks ops j) ops.length).map fun x => Value.int .u64 (U x)).set j (.int .u64 (U y))) := by rw [← hw4]; exact (HR3.out.stored j _).1
            have HR4 := Lib.hid hr4
            have hc4 : w4.cell? ⟨w.heap.size + 1, j, none⟩ = some (.int .u64 (U y)) := (hr4.cellAt j (by omega)).trans (by obtain ⟨z3, hz3⟩ := HR1.out; rw [List.getElem?_set_self (List.getElem?_eq_some_iff.1 hz3).1])
            have hf4 := hr4.frozenAt j
            obtain ⟨f0, _⟩ := HC.out _ HT4.out
            have hs4 : wr.heap.size < w4.heap.size := Nat.lt_of_lt_of_le (by rw [World.size_alloc]; exact Nat.lt_succ_self _) HT4.out.size
            clear hw4 hr4 hc3 hf3
            have m0 := (HT4.out.cell (p := ⟨b', off' + kn (ops.take j) 12, none⟩) (by rw [World.size_alloc]; exact Nat.lt_succ_of_lt hbw') hbw0).trans (cell_al box HM0.out)
            go_wp2_with fail
            go_roundw
            case rel =>
              have hr := (HR4.out.stored j (.int .u64 (U y0))).1
              rw [List.set_set] at hr
              have hs : stepV true keys opened masks (upV true keys opened masks ops j) (kn (ops.take j) 1) (kn (ops.take j) 12) ⟨12, dom, ra, rb, rd, U cc⟩ = y0 := by
                simp only [stepV, and_self, if_true]; exact HY0.out
              have hf := HSt.out.next HUL.out hlt (((Touch.alloc _ wr box).trans HT4.out).trans (Touch.setCell _ _ _ _ rfl)) hr
              have eu := upV_step (bl := true) (keys := keys) (opened := opened) (masks := masks) ho
              rw [hs] at eu
              rw [← eu] at hf
              exact ⟨j + 1, by omega, by simp, by rw [HKN1.out], (by rw [HKN12.out]; simp [toldN]), hf⟩
            case measure => simp [intOf]; omega
          · have HE := Lib.hid hk12
            have hk2c : ((kind == 2) = false) ∨ (kind = 2 ∧ bl = true) := by
              by_cases h : kind = 2
              · right; exact ⟨h, by cases bl; exact absurd ⟨h, rfl⟩ hk2; rfl⟩
              · left; simpa using h
            have hk12c : ((kind == 12) = false ∧ kind ≠ 12) ∨ (kind = 12 ∧ bl = false) := by
              by_cases h : kind = 12
              · right; exact ⟨h, by cases bl; rfl; exact absurd ⟨h, rfl⟩ hk12⟩
              · left; exact ⟨by simpa using h, h⟩
            have HKN12 : Hid (toldN bl (kn (ops.take (j + 1)) 12) = toldN bl (kn (ops.take j) 12)) := Lib.hid (by
              cases bl
              · rfl
              · have h12 : kind ≠ 12 := fun h => hk12 ⟨h, rfl⟩
                rw [kn_step ho, if_neg h12]; rfl)
            clear hk2 hk12 hk1
            rcases hk2c with hk2b | ⟨rfl, rfl⟩
            · rcases hk12c with ⟨hk12b, hk12n⟩ | ⟨rfl, rfl⟩
              · clear hk12n
                obtain ⟨f0, _, _, _, _, f5⟩ := HC.out _ (Touch.refl _ _)
                go_upto_region 13 with (fail)
                clear f0 f5
                try rw [hbox]
                have HBX := Lib.hid hbox
                clear hbox
                go_region_held3 (fun w' => w'.cell? ⟨wr.heap.size, 0, none⟩ = some (.int .i64 kind) ∧ w'.cell? ⟨wr.heap.size, 1, none⟩ = some (.int .i64 dom) ∧ w'.cell? ⟨wr.heap.size, 2, none⟩ = some (.int .i64 ra) ∧
                    w'.cell? ⟨wr.heap.size, 3, none⟩ = some (.int .i64 rb) ∧ w'.cell? ⟨wr.heap.size, 4, none⟩ = some (.int .i64 rd) ∧ w'.cell? ⟨wr.heap.size, 5, none⟩ = some (.int .u64 (U cc)))
                  (first | exact HF.out | exact HC.out _ (touch_drew _ _ 1) | exact HC.out _ (HT3.out.trans (Touch.setCell _ _ _ _ rfl)))
                  (first
                    | (go_at_call 15; refine (word_fill (upV bl keys opened masks ops j) ops.length HUL2.out _ _ _ _ HLM.out (by exact HVW.out)).mono ?_; rintro e w' ⟨rfl, rfl⟩)
                    | (go_at_call 27; refine (reval0 kind dom ra rb rd cc _ _ _ z0 HZ.out _).mono ?_; rintro e w3 ⟨rfl, hb3⟩; have HT3 := Lib.hid ((touch_drew (fun k => k = w.heap.size + 1) (wr.alloc box) 1).trans (Touch.of_below (D := fun k => k = w.heap.size + 1) hb3 (fun k h1 h2 => absurd h2 (Nat.not_lt.2 h1)))); have HF := Lib.hid (HC.out _ HT3.out);
                       have hr3 := ownsRow_touch (HSt.out.row.alloc box) (Touch.of_below (D := fun _ => False) (((below_drewN' (W := wr.alloc box) 1)).trans hb3) (fun k h1 h2 => absurd h2 (Nat.not_lt.2 h1))) (fun k _ h => h); have HR3 := Lib.hid hr3; obtain ⟨z3, hz3⟩ := HR1.out; have hc3 := (hr3.cellAt j (by omega)).trans hz3; have hf3 := hr3.frozenAt j; clear hb3 hr3 hz3))
                obtain ⟨y, hy⟩ : ∃ y, evalW kind cc (atV (upV bl keys opened masks ops j) ra) (atV (upV bl keys opened masks ops j) rb) (atV (upV bl keys opened masks ops j) rd) z0 = y := ⟨_, rfl⟩
                rw [hy]
                have HY := Lib.hid hy
                clear hy
                obtain ⟨w4, hw4⟩ : ∃ w4, w3.setCell ⟨w.heap.size + 1, j, none⟩ (.int .u64 (U y)) = w4 := ⟨_, rfl⟩
                rw [hw4]
                have HT4 : Hid (Touch (fun k => k = w.heap.size + 1) (wr.alloc box) w4) := Lib.hid (by rw [← hw4]; exact HT3.out.trans (Touch.setCell _ _ _ _ rfl))
                have hr4 : w4.ownsRow (w.heap.size + 1) 40 1 (.slice (some ⟨w.heap.size + 1, 0, none⟩) ops.length ops.length) ops.length (((fillV (upV bl keys opened masks ops j) ops.length).map fun x => Value.int .u64 (U x)).set j (.int .u64 (U y))) := by rw [← hw4]; exact (HR3.out.stored j _).1
                have HR4 := Lib.hid hr4
                have hc4 : w4.cell? ⟨w.heap.size + 1, j, none⟩ = some (.int .u64 (U y)) := (hr4.cellAt j (by omega)).trans (by obtain ⟨z3, hz3⟩ := HR1.out; rw [List.getElem?_set_self (List.getElem?_eq_some_iff.1 hz3).1])
                have hf4 := hr4.frozenAt j
                obtain ⟨f0, _⟩ := HC.out _ HT4.out
                have hs4 : wr.heap.size < w4.heap.size := Nat.lt_of_lt_of_le (by rw [World.size_alloc]; exact Nat.lt_succ_self _) HT4.out.size
                clear hw4 hr4 hc3 hf3
                go_wp2_with fail
                go_roundw
                case rel =>
                  have hs : stepV bl keys opened masks (upV bl keys opened masks ops j) (kn (ops.take j) 1) (kn (ops.take j) 12) _ = y := stepV_eval (by first | exact HE.out | simp) HCW.out HX0.out HY.out
                  have hf := HSt.out.next HUL.out hlt ((Touch.alloc _ wr box).trans HT4.out) HR4.out
                  rw [← hs, ← upV_step ho] at hf
                  exact ⟨j + 1, by omega, by simp, (by rw [HKN1.out]; first | done | simp), by rw [HKN12.out], hf⟩
                case measure => simp [intOf]; omega
              · obtain ⟨f0, _, _, _, _, f5⟩ := HC.out _ (Touch.refl _ _)
                go_upto_region 13 with (fail)
                clear f0 f5
                try rw [hbox]
                have HBX := Lib.hid hbox
                clear hbox
                go_region_held3 (fun w' => w'.cell? ⟨wr.heap.size, 0, none⟩ = some (.int .i64 12) ∧ w'.cell? ⟨wr.heap.size, 1, none⟩ = some (.int .i64 dom) ∧ w'.cell? ⟨wr.heap.size, 2, none⟩ = some (.int .i64 ra) ∧
                    w'.cell? ⟨wr.heap.size, 3, none⟩ = some (.int .i64 rb) ∧ w'.cell? ⟨wr.heap.size, 4, none⟩ = some (.int .i64 rd) ∧ w'.cell? ⟨wr.heap.size, 5, none⟩ = some (.int .u64 (U cc)))
                  (first | exact HF.out | exact HC.out _ (touch_drew _ _ 1) | exact HC.out _ (HT3.out.trans (Touch.setCell _ _ _ _ rfl)))
                  (first
                    | (go_at_call 15; refine (word_fill (upV false keys opened masks ops j) ops.length HUL2.out _ _ _ _ HLM.out (by exact HVW.out)).mono ?_; rintro e w' ⟨rfl, rfl⟩)
                    | (go_at_call 27; refine (reval0 12 dom ra rb rd cc _ _ _ z0 HZ.out _).mono ?_; rintro e w3 ⟨rfl, hb3⟩; have HT3 := Lib.hid ((touch_drew (fun k => k = w.heap.size + 1) (wr.alloc box) 1).trans (Touch.of_below (D := fun k => k = w.heap.size + 1) hb3 (fun k h1 h2 => absurd h2 (Nat.not_lt.2 h1)))); have HF := Lib.hid (HC.out _ HT3.out);
                       have hr3 := ownsRow_touch (HSt.out.row.alloc box) (Touch.of_below (D := fun _ => False) (((below_drewN' (W := wr.alloc box) 1)).trans hb3) (fun k h1 h2 => absurd h2 (Nat.not_lt.2 h1))) (fun k _ h => h); have HR3 := Lib.hid hr3; obtain ⟨z3, hz3⟩ := HR1.out; have hc3 := (hr3.cellAt j (by omega)).trans hz3; have hf3 := hr3.frozenAt j; clear hb3 hr3 hz3))
                obtain ⟨y, hy⟩ : ∃ y, evalW 12 cc (atV (upV false keys opened masks ops j) ra) (atV (upV false keys opened masks ops j) rb) (atV (upV false keys opened masks ops j) rd) z0 = y := ⟨_, rfl⟩
                rw [hy]
                have HY := Lib.hid hy
                clear hy
                obtain ⟨w4, hw4⟩ : ∃ w4, w3.setCell ⟨w.heap.size + 1, j, none⟩ (.int .u64 (U y)) = w4 := ⟨_, rfl⟩
                rw [hw4]
                have HT4 : Hid (Touch (fun k => k = w.heap.size + 1) (wr.alloc box) w4) := Lib.hid (by rw [← hw4]; exact HT3.out.trans (Touch.setCell _ _ _ _ rfl))
                have hr4 : w4.ownsRow (w.heap.size + 1) 40 1 (.slice (some ⟨w.heap.size + 1, 0, none⟩) ops.length ops.length) ops.length (((fillV (upV false keys opened masks ops j) ops.length).map fun x => Value.int .u64 (U x)).set j (.int .u64 (U y))) := by rw [← hw4]; exact (HR3.out.stored j _).1
                have HR4 := Lib.hid hr4
                have hc4 : w4.cell? ⟨w.heap.size + 1, j, none⟩ = some (.int .u64 (U y)) := (hr4.cellAt j (by omega)).trans (by obtain ⟨z3, hz3⟩ := HR1.out; rw [List.getElem?_set_self (List.getElem?_eq_some_iff.1 hz3).1])
                have hf4 := hr4.frozenAt j
                obtain ⟨f0, _⟩ := HC.out _ HT4.out
                have hs4 : wr.heap.size < w4.heap.size := Nat.lt_of_lt_of_le (by rw [World.size_alloc]; exact Nat.lt_succ_self _) HT4.out.size
                clear hw4 hr4 hc3 hf3
                go_wp2_with fail
                go_roundw
                case rel =>
                  have hs : stepV false keys opened masks (upV false keys opened masks ops j) (kn (ops.take j) 1) (kn (ops.take j) 12) _ = y := stepV_eval (by first | exact HE.out | simp) HCW.out HX0.out HY.out
                  have hf := HSt.out.next HUL.out hlt ((Touch.alloc _ wr box).trans HT4.out) HR4.out
                  rw [← hs, ← upV_step ho] at hf
                  exact ⟨j + 1, by omega, by simp, (by rw [HKN1.out]; first | done | simp), by rw [HKN12.out], hf⟩
                case measure => simp [intOf]; omega
            · rcases hk12c with ⟨hk12b, hk12n⟩ | ⟨_, hbad⟩
              · clear hk12n hk12b
                obtain ⟨f0, _, _, _, _, f5⟩ := HC.out _ (Touch.refl _ _)
                go_upto_region 13 with (fail)
                clear f0 f5
                try rw [hbox]
                have HBX := Lib.hid hbox
                clear hbox
                go_region_held3 (fun w' => w'.cell? ⟨wr.heap.size, 0, none⟩ = some (.int .i64 2) ∧ w'.cell? ⟨wr.heap.size, 1, none⟩ = some (.int .i64 dom) ∧ w'.cell? ⟨wr.heap.size, 2, none⟩ = some (.int .i64 ra) ∧
                    w'.cell? ⟨wr.heap.size, 3, none⟩ = some (.int .i64 rb) ∧ w'.cell? ⟨wr.heap.size, 4, none⟩ = some (.int .i64 rd) ∧ w'.cell? ⟨wr.heap.size, 5, none⟩ = some (.int .u64 (U cc)))
                  (first | exact HF.out | exact HC.out _ (touch_drew _ _ 1) | exact HC.out _ (HT3.out.trans (Touch.setCell _ _ _ _ rfl)))
                  (first
                    | (go_at_call 15; refine (word_fill (upV true keys opened masks ops j) ops.length HUL2.out _ _ _ _ HLM.out (by exact HVW.out)).mono ?_; rintro e w' ⟨rfl, rfl⟩)
                    | (go_at_call 27; refine (reval0 2 dom ra rb rd cc _ _ _ z0 HZ.out _).mono ?_; rintro e w3 ⟨rfl, hb3⟩; have HT3 := Lib.hid ((touch_drew (fun k => k = w.heap.size + 1) (wr.alloc box) 1).trans (Touch.of_below (D := fun k => k = w.heap.size + 1) hb3 (fun k h1 h2 => absurd h2 (Nat.not_lt.2 h1)))); have HF := Lib.hid (HC.out _ HT3.out);
                       have hr3 := ownsRow_touch (HSt.out.row.alloc box) (Touch.of_below (D := fun _ => False) (((below_drewN' (W := wr.alloc box) 1)).trans hb3) (fun k h1 h2 => absurd h2 (Nat.not_lt.2 h1))) (fun k _ h => h); have HR3 := Lib.hid hr3; obtain ⟨z3, hz3⟩ := HR1.out; have hc3 := (hr3.cellAt j (by omega)).trans hz3; have hf3 := hr3.frozenAt j; clear hb3 hr3 hz3))
                obtain ⟨y, hy⟩ : ∃ y, evalW 2 cc (atV (upV true keys opened masks ops j) ra) (atV (upV true keys opened masks ops j) rb) (atV (upV true keys opened masks ops j) rd) z0 = y := ⟨_, rfl⟩
                rw [hy]
                have HY := Lib.hid hy
                clear hy
                obtain ⟨w4, hw4⟩ : ∃ w4, w3.setCell ⟨w.heap.size + 1, j, none⟩ (.int .u64 (U y)) = w4 := ⟨_, rfl⟩
                rw [hw4]
                have HT4 : Hid (Touch (fun k => k = w.heap.size + 1) (wr.alloc box) w4) := Lib.hid (by rw [← hw4]; exact HT3.out.trans (Touch.setCell _ _ _ _ rfl))
                have hr4 : w4.ownsRow (w.heap.size + 1) 40 1 (.slice (some ⟨w.heap.size + 1, 0, none⟩) ops.length ops.length) ops.length (((fillV (upV true keys opened masks ops j) ops.length).map fun x => Value.int .u64 (U x)).set j (.int .u64 (U y))) := by rw [← hw4]; exact (HR3.out.stored j _).1
                have HR4 := Lib.hid hr4
                have hc4 : w4.cell? ⟨w.heap.size + 1, j, none⟩ = some (.int .u64 (U y)) := (hr4.cellAt j (by omega)).trans (by obtain ⟨z3, hz3⟩ := HR1.out; rw [List.getElem?_set_self (List.getElem?_eq_some_iff.1 hz3).1])
                have hf4 := hr4.frozenAt j
                obtain ⟨f0, _⟩ := HC.out _ HT4.out
                have hs4 : wr.heap.size < w4.heap.size := Nat.lt_of_lt_of_le (by rw [World.size_alloc]; exact Nat.lt_succ_self _) HT4.out.size
                clear hw4 hr4 hc3 hf3
                go_wp2_with fail
                go_roundw
                case rel =>
                  have hs : stepV true keys opened masks (upV true keys opened masks ops j) (kn (ops.take j) 1) (kn (ops.take j) 12) _ = y := stepV_eval (by first | exact HE.out | simp) HCW.out HX0.out HY.out
                  have hf := HSt.out.next HUL.out hlt ((Touch.alloc _ wr box).trans HT4.out) HR4.out
                  rw [← hs, ← upV_step ho] at hf
                  exact ⟨j + 1, by omega, by simp, (by rw [HKN1.out]; first | done | simp), by rw [HKN12.out], hf⟩
                case measure => simp [intOf]; omega
              · cases hbad
    · obtain rfl : j = ops.length := by omega
      have hul := upV_length (bl := bl) (keys := keys) (opened := opened) (masks := masks) (Nat.le_refl ops.length)
      have hr := hst.row
      rw [fillV_all hul] at hr
      have HR := Lib.hid hr
      have HB := Lib.hid hst.box.below
      have HUL := Lib.hid hul
      clear hst hr hul
      go_wp2_with fail
      go_ret
      exact ⟨_, rfl, by rw [HUL.out]; exact ownsRow_lower HR.out (Nat.le_succ _), HB.out⟩
end Go.Proofs.Ytdlmijcnjjdbbaa
