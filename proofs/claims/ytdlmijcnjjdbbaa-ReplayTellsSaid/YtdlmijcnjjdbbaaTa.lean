/- trace.Tally, visorref18.Tally: how many ops there are of each kind. Conditions: each lemma's own. -/
import Derived.Test.YtdlmijcnjjdbbaaTc
namespace Go.Proofs.Ytdlmijcnjjdbbaa
open Go Go.RowKit

def tcells (K : Nat → Int) : Array Value := #[.int .i64 (K 0), .int .i64 (K 1), .int .i64 (K 2), .int .i64 (K 3), .int .i64 (K 4), .int .i64 (K 5), .int .i64 (K 6), .int .i64 (K 7), .int .i64 (K 8), .int .i64 (K 9), .int .i64 (K 10), .int .i64 (K 11), .int .i64 (K 12)]
def TalAt (w : World) (mb : Nat) (K : Nat → Int) : Prop := w.heap[mb]? = some (.cells (tcells K) 46 (0, 0))
theorem TalAt.lt {w : World} {mb : Nat} {K : Nat → Int} (h : TalAt w mb K) : mb < w.heap.size := (Array.getElem?_eq_some_iff.1 h).1
theorem TalAt.cell {w : World} {mb : Nat} {K : Nat → Int} (h : TalAt w mb K) (j : Nat) (hj : j ≤ 12) : w.cell? ⟨mb, j, none⟩ = some (.int .i64 (K j)) := by
  have e : w.cell? ⟨mb, j, none⟩ = (tcells K)[j]? := by unfold World.cell?; rw [show w.heap[mb]? = _ from h]; rfl
  rw [e]
  have : j = 0 ∨ j = 1 ∨ j = 2 ∨ j = 3 ∨ j = 4 ∨ j = 5 ∨ j = 6 ∨ j = 7 ∨ j = 8 ∨ j = 9 ∨ j = 10 ∨ j = 11 ∨ j = 12 := by omega
  rcases this with rfl | rfl | rfl | rfl | rfl | rfl | rfl | rfl | rfl | rfl | rfl | rfl | rfl <;> rfl
theorem TalAt.frozen {w : World} {mb : Nat} {K : Nat → Int} (h : TalAt w mb K) (j : Nat) : w.frozen? ⟨mb, j, none⟩ = false := by
  unfold World.frozen?; rw [show w.heap[mb]? = _ from h]; simp
theorem TalAt.kept {w w' : World} {mb : Nat} {K : Nat → Int} {r : Option Nat} (h : TalAt w mb K) (hg : w.grownBy w' r) (hne : some mb ≠ r) : TalAt w' mb K := (hg.block mb h.lt hne).trans h
theorem TalAt.of_eq {w : World} {mb : Nat} {K K' : Nat → Int} (h : TalAt w mb K) (e : tcells K = tcells K') : TalAt w mb K' := by unfold TalAt at *; rw [h, e]
theorem TalAt.below {w w' : World} {mb : Nat} {K : Nat → Int} (h : TalAt w mb K) (hb : Below w.heap.size w w') : TalAt w' mb K := (hb.block mb h.lt).trans h
theorem TalAt.new (w : World) (K : Nat → Int) : TalAt (w.alloc (.cells (tcells K) 46)) w.heap.size K := World.alloc_heap_new ..
def upd (K : Nat → Int) (i : Nat) (k : Int) (j : Nat) : Int := if j = i then k else K j
theorem heap_set {w : World} {b j : Nat} {cs : Array Value} {t : TypeId} {fr : Nat × Nat} {v : Value} (h : w.heap[b]? = some (.cells cs t fr)) : (w.setCell ⟨b, j, none⟩ v).heap[b]? = some (.cells (cs.setIfInBounds j v) t fr) := by
  obtain ⟨hlt, hk⟩ := Array.getElem?_eq_some_iff.1 h
  show (w.heap.modify b _)[b]? = _
  rw [Array.getElem?_eq_getElem (by rw [Array.size_modify]; exact hlt), Array.getElem_modify_self, hk]
  rfl
theorem grownBy_set1 (W : World) (b j : Nat) (v : Value) : W.grownBy (W.setCell ⟨b, j, none⟩ v) (some b) :=
  ⟨rfl, rfl, rfl, (KeepsWalks.setCell W _ v).size, fun k _ hk => Below.heap_setCell _ _ _ k (fun e => hk (by rw [e]))⟩
theorem TalAt.put {w : World} {mb : Nat} {K : Nat → Int} (h : TalAt w mb K) (j : Nat) (hj : j ≤ 12) (z : Int) : TalAt (w.setCell ⟨mb, j, none⟩ (.int .i64 z)) mb (upd K j z) := by
  refine (heap_set h).trans ?_
  have : j = 0 ∨ j = 1 ∨ j = 2 ∨ j = 3 ∨ j = 4 ∨ j = 5 ∨ j = 6 ∨ j = 7 ∨ j = 8 ∨ j = 9 ∨ j = 10 ∨ j = 11 ∨ j = 12 := by omega
  rcases this with rfl | rfl | rfl | rfl | rfl | rfl | rfl | rfl | rfl | rfl | rfl | rfl | rfl <;> rfl

def cls (o : OpV) : Nat := if 1 ≤ o.kind ∧ o.kind ≤ 12 then o.kind.toNat else 0
def kc (ops : List OpV) (k : Nat) : Int := (ops.countP (fun o => cls o == k) : Nat)
theorem kc_le (ops : List OpV) (k : Nat) : 0 ≤ kc ops k ∧ kc ops k ≤ ops.length := by
  unfold kc
  have := List.countP_le_length (p := fun o => cls o == k) (l := ops)
  omega
theorem kc_step {ops : List OpV} {j : Nat} {o : OpV} (h : ops[j]? = some o) : kc (ops.take (j + 1)) = upd (kc (ops.take j)) (cls o) (kc (ops.take j) (cls o) + 1) := by
  obtain ⟨hj, rfl⟩ := List.getElem?_eq_some_iff.1 h
  funext k
  unfold upd kc
  rw [List.take_succ_eq_append_getElem hj, List.countP_append]
  by_cases hk : k = cls ops[j]
  · subst hk; simp
  · have hk' : (cls ops[j] == k) = false := by simp; exact fun h => hk h.symm
    rw [if_neg hk, List.countP_cons, hk']; simp

structure TalSt (w : World) (oa : Option Addr) (ops : List OpV) (j : Nat) (wr : World) : Prop where
  below : Below w.heap.size w wr
  res : TalAt wr (w.heap.size + 1) (fun _ => 0)
  arr : TalAt wr (w.heap.size + 1 + 1) (kc (ops.take j))
theorem set_below {n b j : Nat} {w wr : World} {v : Value} (h : Below n w wr) (hb : n ≤ b) : Below n w (wr.setCell ⟨b, j, none⟩ v) := h.trans ⟨rfl, rfl, rfl, (KeepsWalks.setCell wr _ v).size, fun k hk => Below.heap_setCell _ _ _ k (fun e => by have e' : k = b := e; omega)⟩
structure TalBel (w : World) (n mb : Nat) (K : Nat → Int) (wr : World) : Prop where
  arr : TalAt wr mb K
  below : Below n w wr
theorem TalBel.put {w : World} {n mb : Nat} {K : Nat → Int} {wr : World} (h : TalBel w n mb K wr) (j : Nat) (hj : j ≤ 12) (hn : n ≤ mb) (z : Int) : TalBel w n mb (upd K j z) (wr.setCell ⟨mb, j, none⟩ (.int .i64 z)) := ⟨h.arr.put j hj z, set_below h.below hn⟩
theorem TalBel.of_eq {w : World} {n mb : Nat} {K K' : Nat → Int} {wr : World} (h : TalBel w n mb K wr) (e : tcells K = tcells K') : TalBel w n mb K' wr := ⟨h.arr.of_eq e, h.below⟩
theorem TalSt.next {w : World} {oa : Option Addr} {ops : List OpV} {j : Nat} {wr : World} (h : TalSt w oa ops j wr) {o : OpV} (ho : ops[j]? = some o) {kn : Nat} (hcl : cls o = kn) (hk : kn ≤ 12) {z : Int} (hz : kc (ops.take j) kn = z) (x : Obj) :
    TalSt w oa ops (j + 1) ((wr.setCell ⟨w.heap.size + 1 + 1, kn, none⟩ (.int .i64 (z + 1))).alloc x) := by
  have hg := grownBy_set1 wr (w.heap.size + 1 + 1) kn (.int .i64 (z + 1))
  have hb := h.below.grown hg h.below.size (fun j h => by have := Option.some.inj h; omega)
  have hsz := hb.size
  refine ⟨hb.alloc hb.size _, TalAt.below (h.res.kept hg (fun h => by have := Option.some.inj h; omega)) (below_al _ _), TalAt.below ?_ (below_al _ _)⟩
  rw [kc_step ho, hcl, hz]
  exact h.arr.put kn hk _

set_option maxRecDepth 100000 in
set_option maxHeartbeats 4000000 in
theorem tally_any (n : Int) (oa : Option Addr) (oc : Nat) (ops : List OpV) (ba : Option Addr) (bl bc : Nat) (w : World) (hT : OpsAt w oa ops) (hl : ops.length ≤ maxLen) :
    Calls Try.prog 52 #[.agg #[.int .i64 n, .slice oa ops.length oc, .slice ba bl bc]] w fun e w' => e = .returned (.agg (tcells (kc ops))) ∧ Below w.heap.size w w' := by
  have HT := Lib.hid hT; clear hT
  have hml : ops.length ≤ 2 ^ 63 - 1 := hl
  clear hl
  go_enter Try.func52, Try.ntmps52
  go_wp2_with fail
  go_loopw [9] (fun i wr => ∃ j : Nat, j ≤ ops.length ∧ i = .int .i64 j ∧ TalSt w oa ops j wr) (fun i _ => ops.length - (intOf i).toNat)
  case atStart =>
    have e2 := TalAt.new ((w.alloc (.cells #[.int .i64 n, .slice oa ops.length oc, .slice ba bl bc] 25)).alloc (.cells (tcells fun _ => 0) 46)) (fun _ => 0)
    have e1 := (TalAt.new (w.alloc (.cells #[.int .i64 n, .slice oa ops.length oc, .slice ba bl bc] 25)) (fun _ => 0)).below (below_al _ (.cells (tcells fun _ => 0) 46))
    simp only [World.size_alloc] at e1 e2
    exact ⟨0, by omega, rfl, ⟨by go_grown, e1, e2⟩⟩
  case round =>
    obtain ⟨j, hj, rfl, hst⟩ := hrel
    have hsz : w.heap.size + 1 + 1 < wr.heap.size := hst.arr.lt
    by_cases hlt : j < ops.length
    · obtain ⟨o, ho⟩ : ∃ o, ops[j]? = some o := ⟨_, List.getElem?_eq_getElem hlt⟩
      obtain ⟨b, off, rfl, hb, c0, c1, c2, c3, c4, c5⟩ := HT.out.at ho
      have q0 := (hst.below.cell (p := ⟨b, off + j * 6, none⟩) hb).trans c0
      have q1 := (hst.below.cell (p := ⟨b, off + j * 6 + 1, none⟩) hb).trans c1
      have q2 := (hst.below.cell (p := ⟨b, off + j * 6 + 2, none⟩) hb).trans c2
      have q3 := (hst.below.cell (p := ⟨b, off + j * 6 + 3, none⟩) hb).trans c3
      have q4 := (hst.below.cell (p := ⟨b, off + j * 6 + 4, none⟩) hb).trans c4
      have q5 := (hst.below.cell (p := ⟨b, off + j * 6 + 5, none⟩) hb).trans c5
      clear c0 c1 c2 c3 c4 c5
      have hK := kc_le (ops.take j) (cls o)
      rw [List.length_take] at hK
      have hK1 : 0 ≤ kc (ops.take j) (cls o) := hK.1
      have hK2 : kc (ops.take j) (cls o) < 9223372036854775807 := by omega
      clear hK
      by_cases hk : 1 ≤ o.kind ∧ o.kind ≤ 12
      · obtain ⟨kn, hkn⟩ : ∃ kn : Nat, o.kind = kn := ⟨o.kind.toNat, by omega⟩
        have hcl : cls o = kn := by simp [cls, hkn]; omega
        obtain ⟨kind, dom, ra, rb, rd, c⟩ := o
        obtain rfl : kind = kn := hkn
        dsimp only at q0 q1 q2 q3 q4 q5 hk
        obtain ⟨hk1, hk2⟩ := hk
        have hk12 : kn ≤ 12 := by omega
        rw [hcl] at hK1 hK2
        have HCL := Lib.hid hcl
        clear hcl
        have hx := (show TalAt (wr.alloc (.cells #[.int .i64 kn, .int .i64 dom, .int .i64 ra, .int .i64 rb, .int .i64 rd, .int .u64 c] 60)) _ _ from hst.arr.below (below_al _ _))
        have c0 := hx.cell kn hk12
        have f0 := hx.frozen kn
        have HX := Lib.hid hx
        have HST := Lib.hid hst
        generalize hz : kc (ops.take j) kn = z at *
        have HZ := Lib.hid hz
        clear hz hx hst
        go_wp2_with fail
        refine ⟨⟨j + 1, by omega, by simp, HST.out.next ho HCL.out hk12 HZ.out _⟩, by simp [intOf]; omega⟩
      · have hcl : cls o = 0 := by simp [cls]; omega
        have hk' : o.kind < 1 ∨ (1 ≤ o.kind ∧ 12 < o.kind) := by omega
        obtain ⟨kind, dom, ra, rb, rd, c⟩ := o
        dsimp only at q0 q1 q2 q3 q4 q5 hk'
        rw [hcl] at hK1 hK2
        have HCL := Lib.hid hcl
        clear hcl hk
        have hx := (show TalAt (wr.alloc (.cells #[.int .i64 kind, .int .i64 dom, .int .i64 ra, .int .i64 rb, .int .i64 rd, .int .u64 c] 60)) _ _ from hst.arr.below (below_al _ _))
        have c0 := hx.cell 0 (by omega)
        have f0 := hx.frozen 0
        have HST := Lib.hid hst
        generalize hz : kc (ops.take j) 0 = z at *
        have HZ := Lib.hid hz
        clear hz hx hst
        rcases hk' with h1 | ⟨h1, h2⟩
        all_goals
          go_wp2_with fail
          refine ⟨⟨j + 1, by omega, by simp, HST.out.next ho HCL.out (by omega) HZ.out _⟩, by simp [intOf]; omega⟩
    · obtain rfl : j = ops.length := by omega
      have e := hst.arr
      rw [List.take_length] at e
      have hB := Lib.hid hst.below
      have hR := Lib.hid hst.res
      have c0 := e.cell 0 (by omega); have c1 := e.cell 1 (by omega); have c2 := e.cell 2 (by omega); have c3 := e.cell 3 (by omega); have c4 := e.cell 4 (by omega); have c5 := e.cell 5 (by omega); have c6 := e.cell 6 (by omega)
      have c7 := e.cell 7 (by omega); have c8 := e.cell 8 (by omega); have c9 := e.cell 9 (by omega); have c10 := e.cell 10 (by omega); have c11 := e.cell 11 (by omega); have c12 := e.cell 12 (by omega)
      have r := hst.res
      have r0 := r.cell 0 (by omega); have f0 := r.frozen 0
      have r1 := r.cell 1 (by omega); have f1 := r.frozen 1
      have r2 := r.cell 2 (by omega); have f2 := r.frozen 2
      have r3 := r.cell 3 (by omega); have f3 := r.frozen 3
      have r4 := r.cell 4 (by omega); have f4 := r.frozen 4
      have r5 := r.cell 5 (by omega); have f5 := r.frozen 5
      have r6 := r.cell 6 (by omega); have f6 := r.frozen 6
      have r7 := r.cell 7 (by omega); have f7 := r.frozen 7
      have r8 := r.cell 8 (by omega); have f8 := r.frozen 8
      have r9 := r.cell 9 (by omega); have f9 := r.frozen 9
      have r10 := r.cell 10 (by omega); have f10 := r.frozen 10
      have r11 := r.cell 11 (by omega); have f11 := r.frozen 11
      have r12 := r.cell 12 (by omega); have f12 := r.frozen 12
      clear r e hst
      go_wp2_with fail
      have e9' := TalBel.of_eq ((((((((((((((show TalBel w w.heap.size (w.heap.size + 1) _ wr from ⟨hR.out, hB.out⟩).put 0 (by omega) (Nat.le_succ _) (kc ops 0)).put 1 (by omega) (Nat.le_succ _) (kc ops 1)).put 2 (by omega) (Nat.le_succ _) (kc ops 2)).put 3 (by omega) (Nat.le_succ _) (kc ops 3)).put 4 (by omega) (Nat.le_succ _) (kc ops 4)).put 5 (by omega) (Nat.le_succ _) (kc ops 5)).put 6 (by omega) (Nat.le_succ _) (kc ops 6)).put 7 (by omega) (Nat.le_succ _) (kc ops 7)).put 8 (by omega) (Nat.le_succ _) (kc ops 8)).put 9 (by omega) (Nat.le_succ _) (kc ops 9)).put 10 (by omega) (Nat.le_succ _) (kc ops 10)).put 11 (by omega) (Nat.le_succ _) (kc ops 11)).put 12 (by omega) (Nat.le_succ _) (kc ops 12)) (K' := kc ops) (by simp [tcells, upd])
      revert e9'
      generalize World.setCell (World.setCell _ _ _) _ _ = w9
      rintro ⟨e9, b9⟩
      have c0 := e9.cell 0 (by omega); have c1 := e9.cell 1 (by omega); have c2 := e9.cell 2 (by omega); have c3 := e9.cell 3 (by omega); have c4 := e9.cell 4 (by omega); have c5 := e9.cell 5 (by omega); have c6 := e9.cell 6 (by omega)
      have c7 := e9.cell 7 (by omega); have c8 := e9.cell 8 (by omega); have c9 := e9.cell 9 (by omega); have c10 := e9.cell 10 (by omega); have c11 := e9.cell 11 (by omega); have c12 := e9.cell 12 (by omega)
      refine bodyPost_ret (v := .agg (tcells (kc ops))) (by simp [results, Try.results52, go_sem, c0, c1, c2, c3, c4, c5, c6, c7, c8, c9, c10, c11, c12]; try rfl) rfl ?_
      exact ⟨rfl, b9⟩
end Go.Proofs.Ytdlmijcnjjdbbaa
