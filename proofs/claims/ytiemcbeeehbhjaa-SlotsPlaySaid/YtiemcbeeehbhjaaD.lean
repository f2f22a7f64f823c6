/- SlotsPlay: the walk. -/
import Derived.Test.YtiemcbeeehbhjaaC
import Derived.Test.YtiemcbeeehbhjaaP
namespace Go.Proofs.Ytiemcbeeehbhjaa
open Go.RowKit Go.Maps

/-- What a round's head knows. -/
def PlaySt (B sb bm mb k : Nat) (w wr : World) : Prop :=
  wr.cell? ⟨sb, 0, none⟩ = some (.map (some bm)) ∧ Below B w wr ∧ ∃ D K S, Agree D K S ∧ wr.ownsMap Try.prog 3 RV bm k D ∧ RefAt wr mb K S

theorem run_append_dummy : True := trivial

set_option maxRecDepth 100000 in
set_option maxHeartbeats 8000000 in
theorem play_walk (a : Option Addr) (len cap : Nat) (f : Nat → Nat → Int) (w : World) (hlen : len ≤ maxLen)
    (ha : 0 < len → ∃ b off, a = some ⟨b, off, none⟩ ∧ ∀ k j, k < len → j < 4 → w.cell? ⟨b, off + k * 4 + j, none⟩ = some (.int .i64 (f k j)) ∧ (Lit.int .i64 (f k j)).wf = true) :
    Calls Try.prog 3 #[.slice a len cap] w fun e w' => e = .returned (.bool true) ∧ Below w.heap.size w w' := by
  unfold maxLen at hlen
  go_enter Try.func3, Try.ntmps3
  go_wp2_with (first
    | (go_at_call 5; go_loud (refine (get_nil _ _ _).mono ?_; rintro e w1 ⟨rfl, hb1⟩))
    | (go_at_call 6; go_loud (refine (put_nil _ _ _ _).mono ?_; rintro e w2 ⟨rfl, hb2⟩))
    | (go_at_call 7; go_loud (refine (drop_nil' _ _).mono ?_; rintro e w3 ⟨rfl, rfl⟩))
    | (go_at_call 8; go_loud (refine (free_nil _ _).mono ?_; rintro e w3 ⟨rfl, rfl⟩))
    | (go_at_call 9; go_loud (refine (count_nil _).mono ?_; rintro e w3 ⟨rfl, rfl⟩))
    | (go_at_call 10; go_loud (refine (new_any _).mono ?_; rintro e w1 ⟨rfl, rfl⟩)))
  have hs2 := hb1.size
  have hs3 := hb2.size
  rw [World.size_alloc] at hs3
  have hba : Below w.heap.size w w2 := (hb1.alloc hb1.size _).trans (hb2.mono (by rw [World.size_alloc]; omega))
  have hsa : w.heap.size ≤ w2.heap.size := hba.size
  go_loopw [8] (fun i wr => ∃ k : Nat, k ≤ len ∧ k ≤ 100 ∧ i = .int .i64 k ∧ PlaySt w.heap.size (w2.heap.size + 1) w2.heap.size (w2.heap.size + 1 + 1) k w wr) (fun i _ => 100 - (intOf i).toNat)
  case atStart =>
    have e1 := World.cell?_alloc_mark (w2.alloc (.map #[] 0)) #[.map (some w2.heap.size)] 58 (0, 0) 0
    rw [World.size_alloc] at e1
    refine ⟨0, by omega, by omega, rfl, cell_al _ e1, ((hba.alloc hsa _).alloc (by go_size) _).alloc (by go_size) _, .map [], fun _ => 0, fun _ => 0, Agree.empty, ((World.ownsMap_made w2 Try.prog 3 RV).alloc _).alloc _, ?_⟩
    have e := World.alloc_heap_new ((w2.alloc (Obj.map #[] 0)).alloc (Obj.cells #[Value.map (some w2.heap.size)] 58)) (.cells (rcells (fun _ => 0) (fun _ => 0)) 41 (0, 0))
    rw [World.size_alloc, World.size_alloc] at e
    exact e
  case round =>
    obtain ⟨k, hk, hk100, rfl, hc0, hB, D, K, S, hA, hown, href⟩ := hrel
    by_cases hlt : k < len ∧ k < 100
    · obtain ⟨h1, h2⟩ := hlt
      obtain ⟨b, off, rfl, hcell⟩ := ha (by omega)
      have hk0 := hB.size
      have hblt : b < w.heap.size := World.block_lt_of_cell? _ _ (hcell k 0 h1 (by omega)).1
      have g0 := (hB.cell (p := ⟨b, off + k * 4 + 0, none⟩) hblt).trans (hcell k 0 h1 (by omega)).1
      have g1 := (hB.cell (p := ⟨b, off + k * 4 + 1, none⟩) hblt).trans (hcell k 1 h1 (by omega)).1
      have g2 := (hB.cell (p := ⟨b, off + k * 4 + 2, none⟩) hblt).trans (hcell k 2 h1 (by omega)).1
      have g3 := (hB.cell (p := ⟨b, off + k * 4 + 3, none⟩) hblt).trans (hcell k 3 h1 (by omega)).1
      have wi := (hcell k 1 h1 (by omega)).2
      have wk := (hcell k 2 h1 (by omega)).2
      clear hcell ha
      generalize f k 0 = kd at g0
      generalize f k 1 = i at g1 wi
      generalize f k 2 = kk at g2 wk
      generalize f k 3 = ss at g3
      simp only [Nat.add_zero] at g0
      by_cases hd0 : kd = 0
      · subst hd0
        have hz := href.lt
        have E1 := Lib.hid (hA.putE i kk)
        go_wp2
        go_region_held3 (fun w' => w'.cell? ⟨wr.heap.size, 1, none⟩ = some (.int .i64 i) ∧ w'.cell? ⟨wr.heap.size, 2, none⟩ = some (.int .i64 kk) ∧ w'.cell? ⟨wr.heap.size, 3, none⟩ = some (.int .i64 ss))
          (first | exact ⟨World.cell?_alloc_mark _ _ _ _ _, World.cell?_alloc_mark _ _ _ _ _, World.cell?_alloc_mark _ _ _ _ _⟩ | exact ⟨hg4.cell hk1 (by simp; omega), hg4.cell hk2 (by simp; omega), hg4.cell hk3 (by simp; omega)⟩ | exact ⟨hk1, hk2, hk3⟩)
          (first
            | (go_at_call 6; refine (put_any D i kk ss none 0 0 none 0 0 _ (by exact cell_al _ hc0) (by exact (hown.alloc _).drew) (by unfold maxLen; omega) wi wk).mono ?_; rintro e w3 ⟨he, hown3, hg3⟩; rw [E1.out] at he; subst he; have hgw : wr.grownBy w3 (some w2.heap.size) := (World.grownBy_alloc wr _ _).trans (undrew hg3); have href3 := href.kept hgw (fun h => by have := Option.some.inj h; omega); have hk1 := hg3.cell (a := ⟨wr.heap.size, 1, none⟩) (World.cell?_alloc_mark _ _ _ _ _) (by simp; omega); have hk2 := hg3.cell (a := ⟨wr.heap.size, 2, none⟩) (World.cell?_alloc_mark _ _ _ _ _) (by simp; omega); have hk3 := hg3.cell (a := ⟨wr.heap.size, 3, none⟩) (World.cell?_alloc_mark _ _ _ _ _) (by simp; omega))
            | (go_at_call 11; refine (rput_any K S i kk ss _ href3).mono ?_; rintro e w4 ⟨rfl, href4, hg4⟩))
        have hne : some (w2.heap.size + 1 + 1) ≠ some w2.heap.size := fun h => by have := Option.some.inj h; omega
        have hne1 : some (w2.heap.size + 1) ≠ some w2.heap.size := fun h => by have := Option.some.inj h; omega
        have hne2 : some (w2.heap.size + 1) ≠ some (w2.heap.size + 1 + 1) := fun h => by have := Option.some.inj h; omega
        have c4 := hg4.cell (hgw.cell hc0 hne1) hne2
        have hB4 : Below w.heap.size w w4 := (hB.grown hgw hB.size (fun j h => by have := Option.some.inj h; omega)).grown hg4 (by have := hgw.size; omega) (fun j h => by have := Option.some.inj h; omega)
        have hown4 := hown3.kept hg4 (fun h => hne h.symm)
        have hA2 := hA.putStep i kk ss none 0 0 none 0 0
        have href4' := href4
        clear href4 hown3 href3 hgw hg4 E1
        generalize (if putB D i kk = true then _ else D) = D' at hown4 hA2
        generalize (if rputE K i kk = 0 then _ else K) = K' at href4' hA2
        generalize (if rputE K i kk = 0 then _ else S) = S' at href4' hA2
        clear hA hown href hc0
        go_wp2_with (first
          | (go_at_call 9; go_loud (refine (count_any D' _ c4 hown4).mono ?_; rintro e w5 ⟨rfl, rfl⟩; rw [hA2.size]))
          | (go_at_call 14; go_loud (refine (rcount_any K' S' _ href4').mono ?_; rintro e w5 ⟨rfl, rfl⟩)))
        go_roundw
        case rel => exact ⟨k + 1, by omega, by omega, by go_num, c4, hB4, D', K', S', hA2, hown4, href4'⟩
        case measure => simp [intOf]; omega
      · have b0 : (kd == 0) = false := by simpa using hd0
        clear hd0
        have hz := href.lt
        have hne : some (w2.heap.size + 1 + 1) ≠ some w2.heap.size := fun h => by have := Option.some.inj h; omega
        have hne1 : some (w2.heap.size + 1) ≠ some w2.heap.size := fun h => by have := Option.some.inj h; omega
        have hne2 : some (w2.heap.size + 1) ≠ some (w2.heap.size + 1 + 1) := fun h => by have := Option.some.inj h; omega
        by_cases hd1 : kd = 1
        · subst hd1
          have E1 := Lib.hid (hA.get i kk)
          have H1 := Lib.hid hne; have H2 := Lib.hid hne1; have H3 := Lib.hid hne2
          clear hne hne1 hne2
          by_cases hr : rgetE K i kk = 0
          · have HR := Lib.hid hr; clear hr
            go_wp2_with (first
              | (go_at_call 5; go_loud (refine (get_any D i kk _ (by exact cell_al _ hc0) (by exact hown.alloc _) wi).mono ?_; rintro e w3 ⟨k0, s0, a0, l0, m0, a1, l1, m1, he, hgv, hb3⟩; rw [E1.out, HR.out] at he; obtain ⟨hs0, hk0'⟩ := hA.getStep hgv; obtain rfl := hk0' HR.out; rw [if_pos HR.out] at hs0; subst he; subst hs0; clear hgv hk0'; have hq1 := (hb3.cell (p := ⟨wr.heap.size, 1, none⟩) (by simp)).trans (World.cell?_alloc_mark _ _ _ _ _); have hq2 := (hb3.cell (p := ⟨wr.heap.size, 2, none⟩) (by simp)).trans (World.cell?_alloc_mark _ _ _ _ _); have hsz3 : wr.heap.size < w3.heap.size := (by have := hb3.size; rw [World.size_alloc] at this; omega); have hown4 := ((hown.alloc _).below hb3 (hown.alloc _).lt).alloc (.cells #[Value.int IntKind.i64 k0, Value.int IntKind.i64 (S i.toNat), Value.slice a0 l0 m0, Value.slice a1 l1 m1] 27); have hg4 : wr.grownBy (w3.alloc (.cells #[Value.int IntKind.i64 k0, Value.int IntKind.i64 (S i.toNat), Value.slice a0 l0 m0, Value.slice a1 l1 m1] 27)) none := ((World.grownBy_alloc wr _ none).trans (hb3.grownBy none)).trans (World.grownBy_alloc w3 _ none); have c4 := hg4.cell hc0 (by simp); have href4 := href.kept hg4 (by simp)))
              | (go_at_call 12; go_loud (refine (rget_any K S i k0 _ href4).mono ?_; rintro e w4 ⟨he, rfl⟩; rw [HR.out, if_pos rfl] at he; subst he))
              | (go_at_call 9; go_loud (refine (count_any D _ c4 hown4).mono ?_; rintro e w5 ⟨rfl, rfl⟩; rw [hA.size]))
              | (go_at_call 14; go_loud (refine (rcount_any K S _ href4).mono ?_; rintro e w5 ⟨rfl, rfl⟩)))
            go_roundw
            case rel => exact ⟨k + 1, by omega, by omega, by go_num, c4, hB.grown hg4 hB.size (fun j h => by cases h), D, K, S, hA, hown4.mono (by omega), href4⟩
            case measure => simp [intOf]; omega
          · have hr0 : (rgetE K i kk == 0) = false := by simpa using hr
            have HR := Lib.hid hr; clear hr
            go_wp2_with (first
              | (go_at_call 5; go_loud (refine (get_any D i kk _ (by exact cell_al _ hc0) (by exact hown.alloc _) wi).mono ?_; rintro e w3 ⟨k0, s0, a0, l0, m0, a1, l1, m1, he, hgv, hb3⟩; rw [E1.out] at he; obtain ⟨hs0, hk0'⟩ := hA.getStep hgv; rw [if_neg HR.out] at hs0; subst he; subst hs0; clear hgv hk0'; have hq1 := (hb3.cell (p := ⟨wr.heap.size, 1, none⟩) (by simp)).trans (World.cell?_alloc_mark _ _ _ _ _); have hq2 := (hb3.cell (p := ⟨wr.heap.size, 2, none⟩) (by simp)).trans (World.cell?_alloc_mark _ _ _ _ _); have hsz3 : wr.heap.size < w3.heap.size := (by have := hb3.size; rw [World.size_alloc] at this; omega); have hown4 := ((hown.alloc _).below hb3 (hown.alloc _).lt).alloc (.cells #[Value.int IntKind.i64 k0, Value.int IntKind.i64 (0), Value.slice a0 l0 m0, Value.slice a1 l1 m1] 27); have hg4 : wr.grownBy (w3.alloc (.cells #[Value.int IntKind.i64 k0, Value.int IntKind.i64 (0), Value.slice a0 l0 m0, Value.slice a1 l1 m1] 27)) none := ((World.grownBy_alloc wr _ none).trans (hb3.grownBy none)).trans (World.grownBy_alloc w3 _ none); have c4 := hg4.cell hc0 (by simp); have href4 := href.kept hg4 (by simp)))
              | (go_at_call 12; go_loud (refine (rget_any K S i kk _ href4).mono ?_; rintro e w4 ⟨he, rfl⟩; rw [if_neg HR.out] at he; subst he))
              | (go_at_call 9; go_loud (refine (count_any D _ c4 hown4).mono ?_; rintro e w5 ⟨rfl, rfl⟩; rw [hA.size]))
              | (go_at_call 14; go_loud (refine (rcount_any K S _ href4).mono ?_; rintro e w5 ⟨rfl, rfl⟩)))
            go_roundw
            case rel => exact ⟨k + 1, by omega, by omega, by go_num, c4, hB.grown hg4 hB.size (fun j h => by cases h), D, K, S, hA, hown4.mono (by omega), href4⟩
            case measure => simp [intOf]; omega
        · have b1 : (kd == 1) = false := by simpa using hd1
          clear hd1
          have H1 := Lib.hid hne; have H2 := Lib.hid hne1; have H3 := Lib.hid hne2
          clear hne hne1 hne2
          by_cases hd2 : kd = 2
          · subst hd2
            have E1 := Lib.hid (hA.drop i)
            go_wp2
            go_region_held3 (fun w' => w'.cell? ⟨wr.heap.size, 1, none⟩ = some (.int .i64 i))
              (first | exact World.cell?_alloc_mark _ _ _ _ _ | exact hg4.cell hk1 (by simp; omega) | exact hk1)
              (first
                | (go_at_call 7; refine (drop_any D i _ (by exact cell_al _ hc0) (by exact (hown.alloc _).drew) wi).mono ?_; rintro e w3 ⟨he, hown3, hg3⟩; rw [E1.out] at he; subst he; have hgw : wr.grownBy w3 (some w2.heap.size) := (World.grownBy_alloc wr _ _).trans (undrew hg3); have href3 := href.kept hgw H1.out; have hk1 := hg3.cell (a := ⟨wr.heap.size, 1, none⟩) (World.cell?_alloc_mark _ _ _ _ _) (by simp; omega))
                | (go_at_call 13; refine (rdrop_any K S i _ href3).mono ?_; rintro e w4 ⟨rfl, href4, hg4⟩))
            have c4 := hg4.cell (hgw.cell hc0 H2.out) H3.out
            have hB4 : Below w.heap.size w w4 := (hB.grown hgw hB.size (fun j h => by have := Option.some.inj h; omega)).grown hg4 (by have := hgw.size; omega) (fun j h => by have := Option.some.inj h; omega)
            have hown4 := hown3.kept hg4 (fun h => H1.out h.symm)
            have hA2 := hA.dropStep i
            have href4' := href4
            clear href4 hown3 href3 hgw hg4 E1
            generalize (if dropE D i = 0 then _ else D) = D' at hown4 hA2
            generalize (if rdropE K i = 0 then _ else K) = K' at href4' hA2
            generalize (if rdropE K i = 0 then _ else S) = S' at href4' hA2
            clear hA hown href hc0
            go_wp2_with (first
              | (go_at_call 9; go_loud (refine (count_any D' _ c4 hown4).mono ?_; rintro e w5 ⟨rfl, rfl⟩; rw [hA2.size]))
              | (go_at_call 14; go_loud (refine (rcount_any K' S' _ href4').mono ?_; rintro e w5 ⟨rfl, rfl⟩)))
            go_roundw
            case rel => exact ⟨k + 1, by omega, by omega, by go_num, c4, hB4, D', K', S', hA2, hown4.mono (by omega), href4'⟩
            case measure => simp [intOf]; omega
          · have b2 : (kd == 2) = false := by simpa using hd2
            clear hd2
            by_cases hi0 : 0 ≤ i
            · by_cases hi4 : i < 4
              · have hc : i = 0 ∨ i = 1 ∨ i = 2 ∨ i = 3 := by omega
                clear hi0 hi4
                rcases hc with rfl | rfl | rfl | rfl
                · have hbq : bits .and .i64 0 3 = 0 := by decide
                  have hr5 : wr.cell? ⟨w2.heap.size + 1 + 1, 0, none⟩ = some (.int .i64 (K 0)) := href.cell 0
                  have E1 := Lib.hid (show freeB D 0 = (K 0 == 0) by rw [hA.free]; rfl)
                  go_wp2
                  go_region_held3 (fun w' => w'.cell? ⟨wr.heap.size, 1, none⟩ = some (.int .i64 0) ∧ w'.cell? ⟨w2.heap.size + 1 + 1, 0, none⟩ = some (.int .i64 (K 0)))
                    (first | exact ⟨World.cell?_alloc_mark _ _ _ _ _, cell_al _ hr5⟩ | exact ⟨hk1, hk5⟩)
                    (first
                      | (go_at_call 8; refine (free_any D _ _ (by exact cell_al _ hc0) (by exact (hown.alloc _).drew) wi).mono ?_; rintro e w3 ⟨he, hb3⟩; rw [E1.out] at he; subst he; have hgw : wr.grownBy w3 none := (World.grownBy_alloc wr _ none).trans (undrew (hb3.grownBy none)); have hk1 := (hb3.cell (p := ⟨wr.heap.size, 1, none⟩) (by simp)).trans (World.cell?_alloc_mark _ _ _ _ _); have hk5 := hgw.cell hr5 (by simp)))
                  have c4 := hgw.cell hc0 (by simp)
                  have hB4 : Below w.heap.size w w3 := hB.grown hgw hB.size (fun j h => by cases h)
                  have hown4 := hown.kept hgw (by simp)
                  have href4' := href.kept hgw (by simp)
                  clear hown href hc0 hgw E1
                  go_wp2_with (first
                    | (go_at_call 9; go_loud (refine (count_any D _ c4 hown4).mono ?_; rintro e w5 ⟨rfl, rfl⟩; rw [hA.size]))
                    | (go_at_call 14; go_loud (refine (rcount_any K S _ href4').mono ?_; rintro e w5 ⟨rfl, rfl⟩)))
                  go_roundw
                  case rel => exact ⟨k + 1, by omega, by omega, by go_num, c4, hB4, D, K, S, hA, hown4.mono (by omega), href4'⟩
                  case measure => simp [intOf]; omega
                · have hbq : bits .and .i64 1 3 = 1 := by decide
                  have hr5 : wr.cell? ⟨w2.heap.size + 1 + 1, 2, none⟩ = some (.int .i64 (K 1)) := href.cell 2
                  have E1 := Lib.hid (show freeB D 1 = (K 1 == 0) by rw [hA.free]; rfl)
                  go_wp2
                  go_region_held3 (fun w' => w'.cell? ⟨wr.heap.size, 1, none⟩ = some (.int .i64 1) ∧ w'.cell? ⟨w2.heap.size + 1 + 1, 2, none⟩ = some (.int .i64 (K 1)))
                    (first | exact ⟨World.cell?_alloc_mark _ _ _ _ _, cell_al _ hr5⟩ | exact ⟨hk1, hk5⟩)
                    (first
                      | (go_at_call 8; refine (free_any D _ _ (by exact cell_al _ hc0) (by exact (hown.alloc _).drew) wi).mono ?_; rintro e w3 ⟨he, hb3⟩; rw [E1.out] at he; subst he; have hgw : wr.grownBy w3 none := (World.grownBy_alloc wr _ none).trans (undrew (hb3.grownBy none)); have hk1 := (hb3.cell (p := ⟨wr.heap.size, 1, none⟩) (by simp)).trans (World.cell?_alloc_mark _ _ _ _ _); have hk5 := hgw.cell hr5 (by simp)))
                  have c4 := hgw.cell hc0 (by simp)
                  have hB4 : Below w.heap.size w w3 := hB.grown hgw hB.size (fun j h => by cases h)
                  have hown4 := hown.kept hgw (by simp)
                  have href4' := href.kept hgw (by simp)
                  clear hown href hc0 hgw E1
                  go_wp2_with (first
                    | (go_at_call 9; go_loud (refine (count_any D _ c4 hown4).mono ?_; rintro e w5 ⟨rfl, rfl⟩; rw [hA.size]))
                    | (go_at_call 14; go_loud (refine (rcount_any K S _ href4').mono ?_; rintro e w5 ⟨rfl, rfl⟩)))
                  go_roundw
                  case rel => exact ⟨k + 1, by omega, by omega, by go_num, c4, hB4, D, K, S, hA, hown4.mono (by omega), href4'⟩
                  case measure => simp [intOf]; omega
                · have hbq : bits .and .i64 2 3 = 2 := by decide
                  have hr5 : wr.cell? ⟨w2.heap.size + 1 + 1, 4, none⟩ = some (.int .i64 (K 2)) := href.cell 4
                  have E1 := Lib.hid (show freeB D 2 = (K 2 == 0) by rw [hA.free]; rfl)
                  go_wp2
                  go_region_held3 (fun w' => w'.cell? ⟨wr.heap.size, 1, none⟩ = some (.int .i64 2) ∧ w'.cell? ⟨w2.heap.size + 1 + 1, 4, none⟩ = some (.int .i64 (K 2)))
                    (first | exact ⟨World.cell?_alloc_mark _ _ _ _ _, cell_al _ hr5⟩ | exact ⟨hk1, hk5⟩)
                    (first
                      | (go_at_call 8; refine (free_any D _ _ (by exact cell_al _ hc0) (by exact (hown.alloc _).drew) wi).mono ?_; rintro e w3 ⟨he, hb3⟩; rw [E1.out] at he; subst he; have hgw : wr.grownBy w3 none := (World.grownBy_alloc wr _ none).trans (undrew (hb3.grownBy none)); have hk1 := (hb3.cell (p := ⟨wr.heap.size, 1, none⟩) (by simp)).trans (World.cell?_alloc_mark _ _ _ _ _); have hk5 := hgw.cell hr5 (by simp)))
                  have c4 := hgw.cell hc0 (by simp)
                  have hB4 : Below w.heap.size w w3 := hB.grown hgw hB.size (fun j h => by cases h)
                  have hown4 := hown.kept hgw (by simp)
                  have href4' := href.kept hgw (by simp)
                  clear hown href hc0 hgw E1
                  go_wp2_with (first
                    | (go_at_call 9; go_loud (refine (count_any D _ c4 hown4).mono ?_; rintro e w5 ⟨rfl, rfl⟩; rw [hA.size]))
                    | (go_at_call 14; go_loud (refine (rcount_any K S _ href4').mono ?_; rintro e w5 ⟨rfl, rfl⟩)))
                  go_roundw
                  case rel => exact ⟨k + 1, by omega, by omega, by go_num, c4, hB4, D, K, S, hA, hown4.mono (by omega), href4'⟩
                  case measure => simp [intOf]; omega
                · have hbq : bits .and .i64 3 3 = 3 := by decide
                  have hr5 : wr.cell? ⟨w2.heap.size + 1 + 1, 6, none⟩ = some (.int .i64 (K 3)) := href.cell 6
                  have E1 := Lib.hid (show freeB D 3 = (K 3 == 0) by rw [hA.free]; rfl)
                  go_wp2
                  go_region_held3 (fun w' => w'.cell? ⟨wr.heap.size, 1, none⟩ = some (.int .i64 3) ∧ w'.cell? ⟨w2.heap.size + 1 + 1, 6, none⟩ = some (.int .i64 (K 3)))
                    (first | exact ⟨World.cell?_alloc_mark _ _ _ _ _, cell_al _ hr5⟩ | exact ⟨hk1, hk5⟩)
                    (first
                      | (go_at_call 8; refine (free_any D _ _ (by exact cell_al _ hc0) (by exact (hown.alloc _).drew) wi).mono ?_; rintro e w3 ⟨he, hb3⟩; rw [E1.out] at he; subst he; have hgw : wr.grownBy w3 none := (World.grownBy_alloc wr _ none).trans (undrew (hb3.grownBy none)); have hk1 := (hb3.cell (p := ⟨wr.heap.size, 1, none⟩) (by simp)).trans (World.cell?_alloc_mark _ _ _ _ _); have hk5 := hgw.cell hr5 (by simp)))
                  have c4 := hgw.cell hc0 (by simp)
                  have hB4 : Below w.heap.size w w3 := hB.grown hgw hB.size (fun j h => by cases h)
                  have hown4 := hown.kept hgw (by simp)
                  have href4' := href.kept hgw (by simp)
                  clear hown href hc0 hgw E1
                  go_wp2_with (first
                    | (go_at_call 9; go_loud (refine (count_any D _ c4 hown4).mono ?_; rintro e w5 ⟨rfl, rfl⟩; rw [hA.size]))
                    | (go_at_call 14; go_loud (refine (rcount_any K S _ href4').mono ?_; rintro e w5 ⟨rfl, rfl⟩)))
                  go_roundw
                  case rel => exact ⟨k + 1, by omega, by omega, by go_num, c4, hB4, D, K, S, hA, hown4.mono (by omega), href4'⟩
                  case measure => simp [intOf]; omega
              · have hd4 : decide (i < 4) = false := by simp; omega
                have hd5 : decide (0 ≤ i) = true := by simp; omega
                have E1 := Lib.hid (show freeB D i = false by simp [freeB]; omega)
                go_wp2
                refine wp_region_plan (fun w' => w'.cell? ⟨wr.heap.size, 1, none⟩ = some (.int .i64 i)) [(0, true), (1, true), (2, true), (4, true), (5, true), (6, true), (3, false), (7, true), (8, true), (9, true), (10, true), (11, true), (12, true), (13, true), (14, true), (15, true), (16, true), (17, true), (18, true), (19, true), (20, true), (21, true), (22, true), (23, true), (24, true)] (by kernel_rfl) (by kernel_rfl) (by kernel_rfl) rfl (fun _ _ d _ _ h => by cases d <;> exact h) (World.cell?_alloc_mark _ _ _ _ _) ?_
                apply wpPlan_yes
                · simp only [List.getElem?_toArray, List.getElem?_cons_succ, List.getElem?_cons_zero]; with_reducible rfl
                · rfl
                · intro w' hS; go_simp; try rfl
                try simp only [Act.put, List.setIfInBounds_toArray, List.set_cons_zero, List.set_cons_succ]
                apply wpPlan_yes
                · simp only [List.getElem?_toArray, List.getElem?_cons_succ, List.getElem?_cons_zero]; with_reducible rfl
                · rfl
                · intro w' hS; go_simp; try rfl
                try simp only [Act.put, List.setIfInBounds_toArray, List.set_cons_zero, List.set_cons_succ]
                apply wpPlan_yes
                · simp only [List.getElem?_toArray, List.getElem?_cons_succ, List.getElem?_cons_zero]; with_reducible rfl
                · rfl
                · intro w' hS; go_simp; try rfl
                try simp only [Act.put, List.setIfInBounds_toArray, List.set_cons_zero, List.set_cons_succ]
                apply wpPlan_yes
                · simp only [List.getElem?_toArray, List.getElem?_cons_succ, List.getElem?_cons_zero]; with_reducible rfl
                · rfl
                · intro w' hS; go_simp; try rfl
                try simp only [Act.put, List.setIfInBounds_toArray, List.set_cons_zero, List.set_cons_succ]
                apply wpPlan_yes
                · simp only [List.getElem?_toArray, List.getElem?_cons_succ, List.getElem?_cons_zero]; with_reducible rfl
                · rfl
                · intro w' hS; go_simp; try rfl
                try simp only [Act.put, List.setIfInBounds_toArray, List.set_cons_zero, List.set_cons_succ]
                apply wpPlan_yes
                · simp only [List.getElem?_toArray, List.getElem?_cons_succ, List.getElem?_cons_zero]; with_reducible rfl
                · rfl
                · intro w' hS; go_simp; try rfl
                try simp only [Act.put, List.setIfInBounds_toArray, List.set_cons_zero, List.set_cons_succ]
                apply wpPlan_act
                · simp only [List.getElem?_toArray, List.getElem?_cons_succ, List.getElem?_cons_zero]; with_reducible rfl
                · rfl
                intro K hK
                go_simp
                go_at_call 8
                refine (free_any D _ _ (by exact cell_al _ hc0) (by exact (hown.alloc _).drew) wi).mono ?_
                rintro e w3 ⟨he, hb3⟩
                rw [E1.out] at he
                subst he
                have hgw : wr.grownBy w3 none := (World.grownBy_alloc wr _ none).trans (undrew (hb3.grownBy none))
                have hk1 := (hb3.cell (p := ⟨wr.heap.size, 1, none⟩) (by simp)).trans (World.cell?_alloc_mark _ _ _ _ _)
                refine hK.out _ _ hk1 ?_
                clear hK K
                try simp only [Act.put, List.setIfInBounds_toArray, List.set_cons_zero, List.set_cons_succ]
                apply wpPlan_yes
                · simp only [List.getElem?_toArray, List.getElem?_cons_succ, List.getElem?_cons_zero]; with_reducible rfl
                · rfl
                · intro w' hS; go_simp; try rfl
                try simp only [Act.put, List.setIfInBounds_toArray, List.set_cons_zero, List.set_cons_succ]
                apply wpPlan_yes
                · simp only [List.getElem?_toArray, List.getElem?_cons_succ, List.getElem?_cons_zero]; with_reducible rfl
                · rfl
                · intro w' hS; go_simp; try rfl
                try simp only [Act.put, List.setIfInBounds_toArray, List.set_cons_zero, List.set_cons_succ]
                apply wpPlan_yes
                · simp only [List.getElem?_toArray, List.getElem?_cons_succ, List.getElem?_cons_zero]; with_reducible rfl
                · rfl
                · intro w' hS; go_simp; try rfl
                try simp only [Act.put, List.setIfInBounds_toArray, List.set_cons_zero, List.set_cons_succ]
                apply wpPlan_yes
                · simp only [List.getElem?_toArray, List.getElem?_cons_succ, List.getElem?_cons_zero]; with_reducible rfl
                · rfl
                · intro w' hS; go_simp; try rfl
                try simp only [Act.put, List.setIfInBounds_toArray, List.set_cons_zero, List.set_cons_succ]
                apply wpPlan_yes
                · simp only [List.getElem?_toArray, List.getElem?_cons_succ, List.getElem?_cons_zero]; with_reducible rfl
                · rfl
                · intro w' hS; go_simp; try rfl
                try simp only [Act.put, List.setIfInBounds_toArray, List.set_cons_zero, List.set_cons_succ]
                apply wpPlan_yes
                · simp only [List.getElem?_toArray, List.getElem?_cons_succ, List.getElem?_cons_zero]; with_reducible rfl
                · rfl
                · intro w' hS; go_simp; try rfl
                try simp only [Act.put, List.setIfInBounds_toArray, List.set_cons_zero, List.set_cons_succ]
                apply wpPlan_no
                · simp only [List.getElem?_toArray, List.getElem?_cons_succ, List.getElem?_cons_zero]; with_reducible rfl
                · rfl
                try simp only [Act.put, List.setIfInBounds_toArray, List.set_cons_zero, List.set_cons_succ]
                apply wpPlan_no
                · simp only [List.getElem?_toArray, List.getElem?_cons_succ, List.getElem?_cons_zero]; with_reducible rfl
                · rfl
                try simp only [Act.put, List.setIfInBounds_toArray, List.set_cons_zero, List.set_cons_succ]
                apply wpPlan_no
                · simp only [List.getElem?_toArray, List.getElem?_cons_succ, List.getElem?_cons_zero]; with_reducible rfl
                · rfl
                try simp only [Act.put, List.setIfInBounds_toArray, List.set_cons_zero, List.set_cons_succ]
                apply wpPlan_no
                · simp only [List.getElem?_toArray, List.getElem?_cons_succ, List.getElem?_cons_zero]; with_reducible rfl
                · rfl
                try simp only [Act.put, List.setIfInBounds_toArray, List.set_cons_zero, List.set_cons_succ]
                apply wpPlan_no
                · simp only [List.getElem?_toArray, List.getElem?_cons_succ, List.getElem?_cons_zero]; with_reducible rfl
                · rfl
                try simp only [Act.put, List.setIfInBounds_toArray, List.set_cons_zero, List.set_cons_succ]
                apply wpPlan_no
                · simp only [List.getElem?_toArray, List.getElem?_cons_succ, List.getElem?_cons_zero]; with_reducible rfl
                · rfl
                try simp only [Act.put, List.setIfInBounds_toArray, List.set_cons_zero, List.set_cons_succ]
                apply wpPlan_no
                · simp only [List.getElem?_toArray, List.getElem?_cons_succ, List.getElem?_cons_zero]; with_reducible rfl
                · rfl
                try simp only [Act.put, List.setIfInBounds_toArray, List.set_cons_zero, List.set_cons_succ]
                apply wpPlan_no
                · simp only [List.getElem?_toArray, List.getElem?_cons_succ, List.getElem?_cons_zero]; with_reducible rfl
                · rfl
                try simp only [Act.put, List.setIfInBounds_toArray, List.set_cons_zero, List.set_cons_succ]
                apply wpPlan_no
                · simp only [List.getElem?_toArray, List.getElem?_cons_succ, List.getElem?_cons_zero]; with_reducible rfl
                · rfl
                try simp only [Act.put, List.setIfInBounds_toArray, List.set_cons_zero, List.set_cons_succ]
                apply wpPlan_no
                · simp only [List.getElem?_toArray, List.getElem?_cons_succ, List.getElem?_cons_zero]; with_reducible rfl
                · rfl
                try simp only [Act.put, List.setIfInBounds_toArray, List.set_cons_zero, List.set_cons_succ]
                apply wpPlan_yes
                · simp only [List.getElem?_toArray, List.getElem?_cons_succ, List.getElem?_cons_zero]; with_reducible rfl
                · rfl
                · intro w' hS; go_simp; try rfl
                try simp only [Act.put, List.setIfInBounds_toArray, List.set_cons_zero, List.set_cons_succ]
                apply wpPlan_yes
                · simp only [List.getElem?_toArray, List.getElem?_cons_succ, List.getElem?_cons_zero]; with_reducible rfl
                · rfl
                · intro w' hS; go_simp; try rfl
                try simp only [Act.put, List.setIfInBounds_toArray, List.set_cons_zero, List.set_cons_succ]
                simp only [wpPlan]
                have c4 := hgw.cell hc0 (by simp)
                have hB4 : Below w.heap.size w w3 := hB.grown hgw hB.size (fun j h => by cases h)
                have hown4 := hown.kept hgw (by simp)
                have href4' := href.kept hgw (by simp)
                clear hown href hc0 hgw E1
                go_wp2_with (first
                  | (go_at_call 9; go_loud (refine (count_any D _ c4 hown4).mono ?_; rintro e w5 ⟨rfl, rfl⟩; rw [hA.size]))
                  | (go_at_call 14; go_loud (refine (rcount_any K S _ href4').mono ?_; rintro e w5 ⟨rfl, rfl⟩)))
                go_roundw
                case rel => exact ⟨k + 1, by omega, by omega, by go_num, c4, hB4, D, K, S, hA, hown4.mono (by omega), href4'⟩
                case measure => simp [intOf]; omega
            · have hi5 : i < 0 := by omega
              have hd5 : decide (0 ≤ i) = false := by simp; omega
              clear hi0
              have E1 := Lib.hid (show freeB D i = false by simp [freeB]; omega)
              go_wp2
              refine wp_region_plan (fun w' => w'.cell? ⟨wr.heap.size, 1, none⟩ = some (.int .i64 i)) [(0, true), (1, true), (2, true), (4, true), (5, true), (6, true), (3, false), (7, true), (8, true), (9, true), (10, true), (11, true), (12, true), (13, true), (14, true), (15, true), (16, true), (17, true), (18, true), (19, true), (20, true), (21, true), (22, true), (23, true), (24, true)] (by kernel_rfl) (by kernel_rfl) (by kernel_rfl) rfl (fun _ _ d _ _ h => by cases d <;> exact h) (World.cell?_alloc_mark _ _ _ _ _) ?_
              apply wpPlan_yes
              · simp only [List.getElem?_toArray, List.getElem?_cons_succ, List.getElem?_cons_zero]; with_reducible rfl
              · rfl
              · intro w' hS; go_simp; try rfl
              try simp only [Act.put, List.setIfInBounds_toArray, List.set_cons_zero, List.set_cons_succ]
              apply wpPlan_yes
              · simp only [List.getElem?_toArray, List.getElem?_cons_succ, List.getElem?_cons_zero]; with_reducible rfl
              · rfl
              · intro w' hS; go_simp; try rfl
              try simp only [Act.put, List.setIfInBounds_toArray, List.set_cons_zero, List.set_cons_succ]
              apply wpPlan_yes
              · simp only [List.getElem?_toArray, List.getElem?_cons_succ, List.getElem?_cons_zero]; with_reducible rfl
              · rfl
              · intro w' hS; go_simp; try rfl
              try simp only [Act.put, List.setIfInBounds_toArray, List.set_cons_zero, List.set_cons_succ]
              apply wpPlan_yes
              · simp only [List.getElem?_toArray, List.getElem?_cons_succ, List.getElem?_cons_zero]; with_reducible rfl
              · rfl
              · intro w' hS; go_simp; try rfl
              try simp only [Act.put, List.setIfInBounds_toArray, List.set_cons_zero, List.set_cons_succ]
              apply wpPlan_yes
              · simp only [List.getElem?_toArray, List.getElem?_cons_succ, List.getElem?_cons_zero]; with_reducible rfl
              · rfl
              · intro w' hS; go_simp; try rfl
              try simp only [Act.put, List.setIfInBounds_toArray, List.set_cons_zero, List.set_cons_succ]
              apply wpPlan_yes
              · simp only [List.getElem?_toArray, List.getElem?_cons_succ, List.getElem?_cons_zero]; with_reducible rfl
              · rfl
              · intro w' hS; go_simp; try rfl
              try simp only [Act.put, List.setIfInBounds_toArray, List.set_cons_zero, List.set_cons_succ]
              apply wpPlan_act
              · simp only [List.getElem?_toArray, List.getElem?_cons_succ, List.getElem?_cons_zero]; with_reducible rfl
              · rfl
              intro K hK
              go_simp
              go_at_call 8
              refine (free_any D _ _ (by exact cell_al _ hc0) (by exact (hown.alloc _).drew) wi).mono ?_
              rintro e w3 ⟨he, hb3⟩
              rw [E1.out] at he
              subst he
              have hgw : wr.grownBy w3 none := (World.grownBy_alloc wr _ none).trans (undrew (hb3.grownBy none))
              have hk1 := (hb3.cell (p := ⟨wr.heap.size, 1, none⟩) (by simp)).trans (World.cell?_alloc_mark _ _ _ _ _)
              refine hK.out _ _ hk1 ?_
              clear hK K
              try simp only [Act.put, List.setIfInBounds_toArray, List.set_cons_zero, List.set_cons_succ]
              apply wpPlan_yes
              · simp only [List.getElem?_toArray, List.getElem?_cons_succ, List.getElem?_cons_zero]; with_reducible rfl
              · rfl
              · intro w' hS; go_simp; try rfl
              try simp only [Act.put, List.setIfInBounds_toArray, List.set_cons_zero, List.set_cons_succ]
              apply wpPlan_no
              · simp only [List.getElem?_toArray, List.getElem?_cons_succ, List.getElem?_cons_zero]; with_reducible rfl
              · rfl
              try simp only [Act.put, List.setIfInBounds_toArray, List.set_cons_zero, List.set_cons_succ]
              apply wpPlan_no
              · simp only [List.getElem?_toArray, List.getElem?_cons_succ, List.getElem?_cons_zero]; with_reducible rfl
              · rfl
              try simp only [Act.put, List.setIfInBounds_toArray, List.set_cons_zero, List.set_cons_succ]
              apply wpPlan_no
              · simp only [List.getElem?_toArray, List.getElem?_cons_succ, List.getElem?_cons_zero]; with_reducible rfl
              · rfl
              try simp only [Act.put, List.setIfInBounds_toArray, List.set_cons_zero, List.set_cons_succ]
              apply wpPlan_yes
              · simp only [List.getElem?_toArray, List.getElem?_cons_succ, List.getElem?_cons_zero]; with_reducible rfl
              · rfl
              · intro w' hS; go_simp; try rfl
              try simp only [Act.put, List.setIfInBounds_toArray, List.set_cons_zero, List.set_cons_succ]
              apply wpPlan_yes
              · simp only [List.getElem?_toArray, List.getElem?_cons_succ, List.getElem?_cons_zero]; with_reducible rfl
              · rfl
              · intro w' hS; go_simp; try rfl
              try simp only [Act.put, List.setIfInBounds_toArray, List.set_cons_zero, List.set_cons_succ]
              apply wpPlan_no
              · simp only [List.getElem?_toArray, List.getElem?_cons_succ, List.getElem?_cons_zero]; with_reducible rfl
              · rfl
              try simp only [Act.put, List.setIfInBounds_toArray, List.set_cons_zero, List.set_cons_succ]
              apply wpPlan_no
              · simp only [List.getElem?_toArray, List.getElem?_cons_succ, List.getElem?_cons_zero]; with_reducible rfl
              · rfl
              try simp only [Act.put, List.setIfInBounds_toArray, List.set_cons_zero, List.set_cons_succ]
              apply wpPlan_no
              · simp only [List.getElem?_toArray, List.getElem?_cons_succ, List.getElem?_cons_zero]; with_reducible rfl
              · rfl
              try simp only [Act.put, List.setIfInBounds_toArray, List.set_cons_zero, List.set_cons_succ]
              apply wpPlan_no
              · simp only [List.getElem?_toArray, List.getElem?_cons_succ, List.getElem?_cons_zero]; with_reducible rfl
              · rfl
              try simp only [Act.put, List.setIfInBounds_toArray, List.set_cons_zero, List.set_cons_succ]
              apply wpPlan_no
              · simp only [List.getElem?_toArray, List.getElem?_cons_succ, List.getElem?_cons_zero]; with_reducible rfl
              · rfl
              try simp only [Act.put, List.setIfInBounds_toArray, List.set_cons_zero, List.set_cons_succ]
              apply wpPlan_no
              · simp only [List.getElem?_toArray, List.getElem?_cons_succ, List.getElem?_cons_zero]; with_reducible rfl
              · rfl
              try simp only [Act.put, List.setIfInBounds_toArray, List.set_cons_zero, List.set_cons_succ]
              apply wpPlan_no
              · simp only [List.getElem?_toArray, List.getElem?_cons_succ, List.getElem?_cons_zero]; with_reducible rfl
              · rfl
              try simp only [Act.put, List.setIfInBounds_toArray, List.set_cons_zero, List.set_cons_succ]
              apply wpPlan_no
              · simp only [List.getElem?_toArray, List.getElem?_cons_succ, List.getElem?_cons_zero]; with_reducible rfl
              · rfl
              try simp only [Act.put, List.setIfInBounds_toArray, List.set_cons_zero, List.set_cons_succ]
              apply wpPlan_no
              · simp only [List.getElem?_toArray, List.getElem?_cons_succ, List.getElem?_cons_zero]; with_reducible rfl
              · rfl
              try simp only [Act.put, List.setIfInBounds_toArray, List.set_cons_zero, List.set_cons_succ]
              apply wpPlan_no
              · simp only [List.getElem?_toArray, List.getElem?_cons_succ, List.getElem?_cons_zero]; with_reducible rfl
              · rfl
              try simp only [Act.put, List.setIfInBounds_toArray, List.set_cons_zero, List.set_cons_succ]
              apply wpPlan_yes
              · simp only [List.getElem?_toArray, List.getElem?_cons_succ, List.getElem?_cons_zero]; with_reducible rfl
              · rfl
              · intro w' hS; go_simp; try rfl
              try simp only [Act.put, List.setIfInBounds_toArray, List.set_cons_zero, List.set_cons_succ]
              apply wpPlan_yes
              · simp only [List.getElem?_toArray, List.getElem?_cons_succ, List.getElem?_cons_zero]; with_reducible rfl
              · rfl
              · intro w' hS; go_simp; try rfl
              try simp only [Act.put, List.setIfInBounds_toArray, List.set_cons_zero, List.set_cons_succ]
              simp only [wpPlan]
              have c4 := hgw.cell hc0 (by simp)
              have hB4 : Below w.heap.size w w3 := hB.grown hgw hB.size (fun j h => by cases h)
              have hown4 := hown.kept hgw (by simp)
              have href4' := href.kept hgw (by simp)
              clear hown href hc0 hgw E1
              go_wp2_with (first
                | (go_at_call 9; go_loud (refine (count_any D _ c4 hown4).mono ?_; rintro e w5 ⟨rfl, rfl⟩; rw [hA.size]))
                | (go_at_call 14; go_loud (refine (rcount_any K S _ href4').mono ?_; rintro e w5 ⟨rfl, rfl⟩)))
              go_roundw
              case rel => exact ⟨k + 1, by omega, by omega, by go_num, c4, hB4, D, K, S, hA, hown4.mono (by omega), href4'⟩
              case measure => simp [intOf]; omega
    · by_cases h1 : k < len
      · have h2 : ¬ k < 100 := by omega
        clear hlt
        go_wp2_with (first
          | (go_at_call 15; go_loud (refine (awake_any _).mono ?_; rintro e w1 ⟨rfl, hbz⟩)))
        go_returns
        exact ⟨rfl, hB.trans (hbz.mono hB.size)⟩
      · clear hlt
        go_wp2_with (first
          | (go_at_call 15; go_loud (refine (awake_any _).mono ?_; rintro e w1 ⟨rfl, hbz⟩)))
        go_returns
        exact ⟨rfl, hB.trans (hbz.mono hB.size)⟩
end Go.Proofs.Ytiemcbeeehbhjaa
