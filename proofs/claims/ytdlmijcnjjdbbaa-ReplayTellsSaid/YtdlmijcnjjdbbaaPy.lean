/- replay.words, replay.all: the words of a trace as a row. Conditions: each lemma's own. -/
import Derived.Test.YtdlmijcnjjdbbaaPx
namespace Go.Proofs.Ytdlmijcnjjdbbaa
open Go Go.RowKit
attribute [local go_sem] Oper.semAt_some

theorem words_fn (n : Int) (oa : Option Addr) (ol oc : Nat) (ba : Option Addr) (bn bc : Nat) (ka : Option Addr) (kl kc : Nat) (ma : Option Addr) (ml mc : Nat) (ta : Option Addr) (tl tc : Nat) (bl : Bool) (w : World) :
    Calls Try.prog 53 #[.agg #[.int .i64 n, .slice oa ol oc, .slice ba bn bc], .agg #[.slice ka kl kc, .slice ma ml mc, .slice ta tl tc, .bool bl]] w fun e w' =>
      e = .returned (.func (.func 83) #[] #[.pointer (some ⟨w.heap.size, 0, none⟩), .pointer (some ⟨w.heap.size + 1, 0, none⟩)]) ∧
      w' = (w.alloc (.cells #[.int .i64 n, .slice oa ol oc, .slice ba bn bc] 25)).alloc (.cells #[.slice ka kl kc, .slice ma ml mc, .slice ta tl tc, .bool bl] 66) := by
  go_enter Try.func53, Try.ntmps53
  go_wp2
  go_ret
  exact ⟨rfl, rfl⟩

theorem box3 {w w1 : World} {o : Obj} {a b c : Value} {t : TypeId} (h : ((w.alloc (.cells #[a, b, c] t)).alloc o).grownBy w1 none) : w1.cell? ⟨w.heap.size, 0, none⟩ = some a ∧ w1.cell? ⟨w.heap.size, 1, none⟩ = some b ∧ w1.cell? ⟨w.heap.size, 2, none⟩ = some c :=
  ⟨h.cell (cell_al _ (World.cell?_alloc_mark w _ _ (0, 0) 0)) (by simp), h.cell (cell_al _ (World.cell?_alloc_mark w _ _ (0, 0) 1)) (by simp), h.cell (cell_al _ (World.cell?_alloc_mark w _ _ (0, 0) 2)) (by simp)⟩
theorem box4 {w w1 : World} {o : Obj} {a b c d : Value} {t : TypeId} (h : ((w.alloc o).alloc (.cells #[a, b, c, d] t)).grownBy w1 none) : w1.cell? ⟨w.heap.size + 1, 0, none⟩ = some a ∧ w1.cell? ⟨w.heap.size + 1, 1, none⟩ = some b ∧ w1.cell? ⟨w.heap.size + 1, 2, none⟩ = some c ∧ w1.cell? ⟨w.heap.size + 1, 3, none⟩ = some d := by
  have e : (w.alloc o).heap.size = w.heap.size + 1 := World.size_alloc ..
  have h0 := h.cell (World.cell?_alloc_mark (w.alloc o) _ _ (0, 0) 0) (by simp)
  have h1 := h.cell (World.cell?_alloc_mark (w.alloc o) _ _ (0, 0) 1) (by simp)
  have h2 := h.cell (World.cell?_alloc_mark (w.alloc o) _ _ (0, 0) 2) (by simp)
  have h3 := h.cell (World.cell?_alloc_mark (w.alloc o) _ _ (0, 0) 3) (by simp)
  rw [e] at h0 h1 h2 h3
  exact ⟨h0, h1, h2, h3⟩

set_option maxRecDepth 100000 in
set_option maxHeartbeats 1000000 in
theorem all_any (bl : Bool) (keys opened masks : List W64) (n : Int) (oa : Option Addr) (oc : Nat) (ops : List OpV) (ba : Option Addr) (bn bc : Nat) (ka : Option Addr) (kc : Nat) (ma : Option Addr) (mc : Nat) (ta : Option Addr) (tc : Nat) (w : World)
    (hT : OpsAt w oa ops) (hlen : ops.length ≤ 1048576) (hk : WordsAt w ka keys) (hkl : keys.length ≤ maxLen) (hmw : WordsAt w ma masks) (hml : masks.length ≤ mc) (hmc : mc ≤ maxLen) (hto : WordsAt w ta opened) (htl : opened.length ≤ tc) (htc : tc ≤ maxLen)
    (hwf : ∀ o ∈ ops, o.Wf) (hreg : ∀ (j : Nat) (o : OpV), ops[j]? = some o → o.a < (j : Int) ∧ o.b < (j : Int) ∧ o.d < (j : Int)) (hkey : ∀ o ∈ ops, o.kind = 2 → bl = false → (cw o).toNat < keys.length) (hm : masks.length = kn ops 1) (ho : bl = true → opened.length = kn ops 12) :
    Calls Try.prog 25 #[.agg #[.int .i64 n, .slice oa ops.length oc, .slice ba bn bc], .agg #[.slice ka keys.length kc, .slice ma masks.length mc, .slice ta opened.length tc, .bool bl]] w fun e w' =>
      Below w.heap.size w w' ∧ ∃ v, e = .returned v ∧ w'.ownsRow w.heap.size 40 1 v ops.length ((upV bl keys opened masks ops ops.length).map fun x => .int .u64 (U x)) := by
  obtain ⟨i0, hi, hz0, hz1, hz2⟩ := info_parts infoU64
  have HI := Lib.hid hi; have HZ0 := Lib.hid hz0; have HZ1 := Lib.hid hz1; have HZ2 := Lib.hid hz2
  have HT := Lib.hid hT; have HWF := Lib.hid hwf; have HREG := Lib.hid hreg; have HKEY := Lib.hid hkey; have HM := Lib.hid hm; have HO := Lib.hid ho; have HK := Lib.hid hk; have HMW := Lib.hid hmw; have HTO := Lib.hid hto
  clear hi hz0 hz1 hz2 hT hwf hreg hkey hm ho hk hmw hto
  refine (callsIn_wide (n := 11)).1 (callsIn_of_wp_marks Try.func25 rfl trivial ?_)
  simp only [Try.ntmps25, List.size_toArray, List.length_cons, List.length_nil, Nat.reduceAdd, Nat.reduceSub, Array.replicate_succ, Array.replicate_zero, List.push_toArray, List.append_toArray, List.nil_append, List.cons_append]
  refine (wpIn_wide (n := 11)).2 ?_
  go_wp2_with (first
    | (at_make; refine wpList_make_own _ rfl _ _ 26 rfl w.heap.size 40 i0 (.int .u64 0) 1 underU64s HI.out HZ0.out HZ1.out .i64 .i64 _ ops.length rfl rfl rfl (by rw [HZ2.out]; omega) (by unfold maxLen; omega) (by simp; omega) ?_; intro w1 hown hgrow; simp only [World.size_alloc] at hown; obtain ⟨t0, t1, t2⟩ := box3 hgrow; obtain ⟨s0, s1, s2, s3⟩ := box4 hgrow; have hz1 : w.heap.size + 1 + 1 < w1.heap.size := (World.ownsRow.lt hown (w.heap.size + 1 + 1) rfl).2; have hz2' : w.heap.size + 1 < w1.heap.size := Nat.lt_of_succ_lt hz1; have hz3 : w.heap.size < w1.heap.size := Nat.lt_of_succ_lt hz2')
    | (go_at_call 53; refine (words_fn _ _ _ _ _ _ _ _ _ _ _ _ _ _ _ _ _ _).mono ?_; rintro e w2 ⟨rfl, rfl⟩))
  have hw0 : Below w.heap.size w w1 := ((((Below.refl _ w).alloc (Nat.le_refl _) _).alloc (by simp) _).grown hgrow (by simp; omega) (fun k e => by cases e))
  obtain ⟨W0, hW0⟩ : ∃ W0, ((w1.alloc (.cells #[.slice (some ⟨w.heap.size + 1 + 1, 0, none⟩) 0 ops.length] 26)).alloc (.cells #[.int .i64 n, .slice oa ops.length oc, .slice ba bn bc] 25)).alloc
      (.cells #[.slice ka keys.length kc, .slice ma masks.length mc, .slice ta opened.length tc, .bool bl] 66) = W0 := ⟨_, rfl⟩
  rw [hW0]
  have hz0 : W0.heap.size = w1.heap.size + 1 + 1 + 1 := by rw [← hW0]; simp
  have hB0 : Below w.heap.size w W0 := by rw [← hW0]; exact ((hw0.alloc hw0.size _).alloc (by simp; omega) _).alloc (by simp; omega) _
  have hx0 : Boxed W0 w1.heap.size 26 (.slice (some ⟨w.heap.size + 1 + 1, 0, none⟩) 0 ops.length) := by rw [← hW0]; exact ((Boxed.new _ _ _).alloc _).alloc _
  have hr0 : W0.ownsRow w.heap.size 40 1 (.slice (some ⟨w.heap.size + 1 + 1, 0, none⟩) 0 ops.length) 0 [] := by rw [← hW0]; exact ((hown.alloc _).alloc _).alloc _
  have ht0 : W0.cell? ⟨w1.heap.size + 1, 1, none⟩ = some (.slice oa ops.length oc) := by
    rw [← hW0]
    refine cell_al _ ?_
    have := World.cell?_alloc_mark (w1.alloc (.cells #[.slice (some ⟨w.heap.size + 1 + 1, 0, none⟩) 0 ops.length] 26)) #[.int .i64 n, .slice oa ops.length oc, .slice ba bn bc] 25 (0, 0) 1
    rwa [World.size_alloc] at this
  have hs0 : ∀ (m : Nat) (v : Value), (#[Value.slice ka keys.length kc, .slice ma masks.length mc, .slice ta opened.length tc, .bool bl] : Array Value)[m]? = some v → W0.cell? ⟨w1.heap.size + 1 + 1, m, none⟩ = some v ∧ W0.frozen? ⟨w1.heap.size + 1 + 1, m, none⟩ = false := by
    intro m v hm
    rw [← hW0]
    obtain ⟨Wz, hWz⟩ : ∃ Wz, (w1.alloc (.cells #[.slice (some ⟨w.heap.size + 1 + 1, 0, none⟩) 0 ops.length] 26)).alloc (.cells #[.int .i64 n, .slice oa ops.length oc, .slice ba bn bc] 25) = Wz := ⟨_, rfl⟩
    rw [hWz, show w1.heap.size + 1 + 1 = Wz.heap.size by rw [← hWz]; simp]
    have e := World.alloc_heap_new Wz (.cells #[.slice ka keys.length kc, .slice ma masks.length mc, .slice ta opened.length tc, .bool bl] 66)
    exact ⟨by unfold World.cell?; rw [e]; exact hm, by unfold World.frozen?; rw [e]; simp⟩
  have hsrc : SrcAt w W0 (w1.heap.size + 1 + 1) keys masks opened bl :=
    ⟨hB0, by omega, by omega, ⟨_, _, (hs0 0 _ rfl).1, hkl, HK.out⟩, ⟨_, _, (hs0 1 _ rfl).1, hml, hmc, HMW.out⟩, ⟨_, _, (hs0 2 _ rfl).1, htl, htc, HTO.out⟩, (hs0 3 _ rfl).1, (hs0 1 _ rfl).2, (hs0 2 _ rfl).2⟩
  clear hs0 hW0 hw0
  refine (wpIn_wide (n := 11)).1 (wpIn_rangeFunc_joint (α := W64) rfl (by omega) (gf := 83) (lb := #[.pointer (some ⟨w1.heap.size + 1, 0, none⟩), .pointer (some ⟨w1.heap.size + 1 + 1, 0, none⟩)]) rfl trivial (enters_of Try.func83 (by kernel_rfl) rfl)
    (encs := fun x => #[.int .u64 (U x)]) (Touch (fun k => k = w1.heap.size + 1 + 1 ∨ W0.heap.size + 2 ≤ k)) (Touch (fun k => k = w.heap.size + 1 + 1 ∨ k = w1.heap.size ∨ k = W0.heap.size + 1))
    (S := fun xs => xs = upV bl keys opened masks ops ops.length) (N := ops.length) ?seq ?ab ?kt ?kb (fun _ => rfl)
    (fun pre W => Boxed W w1.heap.size 26 (.slice (some ⟨w.heap.size + 1 + 1, 0, none⟩) pre.length ops.length) ∧ W.ownsRow w.heap.size 40 1 (.slice (some ⟨w.heap.size + 1 + 1, 0, none⟩) pre.length ops.length) pre.length (pre.map fun x => .int .u64 (U x)) ∧ Below w.heap.size w W)
    ?hI ?hIA ⟨hx0, hr0, hB0⟩
    (fun x => { tmps := #[.agg #[.int .i64 n, .slice oa ops.length oc, .slice ba bn bc], .agg #[.slice ka keys.length kc, .slice ma masks.length mc, .slice ta opened.length tc, .bool bl], .pointer (some ⟨w.heap.size, 0, none⟩), .pointer (some ⟨w.heap.size + 1, 0, none⟩), .slice none 0 0, .pointer (some ⟨w1.heap.size, 0, none⟩),
      .int .u64 (U x), .pointer (some ⟨w.heap.size, 1, none⟩), .slice oa ops.length oc, .int .i64 ops.length, .slice (some ⟨w.heap.size + 1 + 1, 0, none⟩) 0 ops.length, .agg #[.int .i64 n, .slice oa ops.length oc, .slice ba bn bc], .agg #[.slice ka keys.length kc, .slice ma masks.length mc, .slice ta opened.length tc, .bool bl],
      .func (.func 83) #[] #[.pointer (some ⟨w1.heap.size + 1, 0, none⟩), .pointer (some ⟨w1.heap.size + 1 + 1, 0, none⟩)], .int .u64 (U x), undef, undef, undef, undef, undef], defers := [] }) ?assign ?body ?done)
  case ab =>
    rintro A B k hab (rfl | rfl) hk
    · exact hab.block _ hk (by omega)
    · exact hab.block _ hk (by omega)
  case kt => exact fun h k => h.trans k
  case kb =>
    intro W o' hlt
    exact Touch.of_grown (grownBy_putObj' W _ o') (fun k e => by cases e; exact .inr (.inr rfl))
  case hI =>
    rintro s A B row ⟨h1, h2, h3⟩ hg hr
    refine ⟨h1.kept hg (fun e => ?_), h2.kept hg (.inr (fun e => ?_)), h3.grown hg h3.size (fun k e => ?_)⟩
    · have := (hr _ e.symm).1; omega
    · have := (hr (w.heap.size + 1 + 1) (by rw [← e]; rfl)).1; omega
    · have := (hr k e).1; omega
  case hIA =>
    rintro s A B ⟨h1, h2, h3⟩ hab
    exact ⟨boxed_touch h1 hab (by omega), ownsRow_touch h2 hab (fun k e => by simp [Value.ownBlock] at e; omega), h3.trans (hab.below (by omega) h3.size)⟩
  case seq =>
    intro l J W hW hWz hJ hY h0
    refine callsIn_wide.2 ((words1_any w bl keys opened masks oa oc ops HT.out hlen HWF.out HREG.out HKEY.out HM.out HO.out l (w1.heap.size + 1) (w1.heap.size + 1 + 1) J (fun k => k = w.heap.size + 1 + 1 ∨ k = w1.heap.size ∨ k = W0.heap.size + 1) W
      (hsrc.kept (Touch.of_below (D := fun _ => False) hW (fun k h1 h2 => by omega)) (fun _ h => h.elim) id) ((hW.cell (p := ⟨w1.heap.size + 1, 1, none⟩) (by simp only; omega)).trans ht0) (by omega) ?_ hY h0).mono ?_)
    · rw [hWz]; exact hJ
    · rintro e W' ⟨hv, hj⟩
      exact ⟨hv, _, rfl, hj⟩
  case assign =>
    intro l x W K hK
    gi_wp2
    exact hK
  case body =>
    rintro l pre x W ⟨h1, h2, h3⟩ hlt
    have c1 := h1.cell
    have l1 := h1.lt
    have H1 := Lib.hid h1; have H2 := Lib.hid h2; have H3 := Lib.hid h3
    clear h1 h2 h3 hx0 hr0 ht0 hsrc hown hgrow
    gi_wp2_with (gi_at_builtin; refine wpListIn_append_fits _ rfl _ _ 26 rfl w.heap.size 40 i0 1 underU64s HI.out HZ1.out (w.heap.size + 1 + 1) pre.length ops.length (pre.map fun x => .int .u64 (U x)) rfl (H2.out.alloc _) ⟨W.heap.size, 0, none⟩ 1 1 [.int .u64 (U x)] rfl rfl (cell_one_new _ _ _) (fun u hu => by simp at hu; subst hu; rfl) (by omega) ?_; intro w6 hown6 hgrow6; have hb6 : Boxed w6 w1.heap.size 26 (.slice (some ⟨w.heap.size + 1 + 1, 0, none⟩) pre.length ops.length) := (H1.out.alloc _).kept hgrow6 (by simp; omega); have hc6 := hb6.cell; have hf6 := hb6.frozen; have hl6 := hb6.lt)
    obtain ⟨_, g1, g2, g3, g4⟩ := Boxed.appended H1.out (by decide) H2.out H3.out.size (by omega) hown6 hgrow6
    refine ⟨g3, ((Touch.alloc _ W _).trans (Touch.of_grown hgrow6 (fun k e => by cases e; exact .inl rfl))).trans (Touch.setCell _ _ _ _ (.inr (.inl rfl))), ?_⟩
    dsimp only
    rw [List.length_append, List.map_append]
    exact ⟨g1, g2, H3.out.trans g4⟩
  case done =>
    rintro xs W rfl ⟨h1, h2, h3⟩ hd
    have hul := upV_length (bl := bl) (keys := keys) (opened := opened) (masks := masks) (Nat.le_refl ops.length)
    rw [hul] at h1 h2
    have c1 := h1.cell
    have H2 := Lib.hid h2; have H3 := Lib.hid h3; have HDf := Lib.hid hd
    clear h1 h2 h3 hx0 hr0 ht0 hsrc hown hgrow hd hul
    have hdn : ∀ o, Below w.heap.size W (W.putObj W0.heap.size o) := fun o => (Below.refl _ W).grown (grownBy_putObj' W _ o) H3.out.size (fun k e => by cases e; omega)
    have HDN := Lib.hid hdn; clear hdn
    go_wp2_with fail
    refine ⟨by simp, .inl ⟨_, _, rfl, run_takeDeferred HDf.out, ?_⟩⟩
    exact ⟨_, results_tmp rfl _ _ _, H3.out.trans (HDN.out _), _, rfl, ownsRow_putObj H2.out _ HDf.out rfl⟩
end Go.Proofs.Ytdlmijcnjjdbbaa
