/- The words that a trace makes, as plain Lean; words in memory. Conditions: each lemma's own. -/
import Derived.Test.YtdlmijcnjjdbbaaTa
import Derived.Test.YtdlmijcnjjdbbaaEv
import Derived.RangeFuncBox
namespace Go.Proofs.Ytdlmijcnjjdbbaa
open Go Go.RowKit

/-- The world B is A but for new blocks, and for blocks of D. -/
structure Touch (D : Nat → Prop) (A B : World) : Prop where
  os : B.os = A.os
  tape : B.tape = A.tape
  output : B.output = A.output
  size : A.heap.size ≤ B.heap.size
  block : ∀ k, k < A.heap.size → ¬ D k → B.heap[k]? = A.heap[k]?
theorem Touch.refl (D : Nat → Prop) (A : World) : Touch D A A := ⟨rfl, rfl, rfl, Nat.le_refl _, fun _ _ _ => rfl⟩
theorem Touch.trans {D : Nat → Prop} {A B C : World} (h : Touch D A B) (h' : Touch D B C) : Touch D A C :=
  ⟨h'.os.trans h.os, h'.tape.trans h.tape, h'.output.trans h.output, Nat.le_trans h.size h'.size, fun k hk hd => (h'.block k (Nat.lt_of_lt_of_le hk h.size) hd).trans (h.block k hk hd)⟩
theorem Touch.mono {D D' : Nat → Prop} {A B : World} (h : Touch D A B) (hd : ∀ k, k < A.heap.size → D k → D' k) : Touch D' A B := ⟨h.os, h.tape, h.output, h.size, fun k hk hn => h.block k hk (fun h' => hn (hd k hk h'))⟩
theorem Touch.below {D : Nat → Prop} {A B : World} {n : Nat} (h : Touch D A B) (hd : ∀ k, D k → n ≤ k) (hn : n ≤ A.heap.size) : Below n A B := ⟨h.os, h.tape, h.output, h.size, fun k hk => h.block k (Nat.lt_of_lt_of_le hk hn) (fun h' => by have := hd k h'; omega)⟩
theorem Touch.of_below {D : Nat → Prop} {A B : World} {n : Nat} (h : Below n A B) (hd : ∀ k, n ≤ k → k < A.heap.size → D k) : Touch D A B := ⟨h.os, h.tape, h.output, h.size, fun k hk hn => h.block k (by have := hd k; by_cases hkn : n ≤ k; exact absurd (this hkn hk) hn; omega)⟩
theorem Touch.of_grown {D : Nat → Prop} {A B : World} {r : Option Nat} (h : A.grownBy B r) (hd : ∀ k, r = some k → D k) : Touch D A B := ⟨h.os, h.tape, h.output, h.size, fun k hk hn => h.block k hk (fun e => hn (hd k e.symm))⟩
theorem Touch.alloc (D : Nat → Prop) (A : World) (o : Obj) : Touch D A (A.alloc o) := ⟨rfl, rfl, rfl, by simp, fun k hk _ => Below.heap_alloc _ _ _ hk⟩
theorem Touch.setCell (D : Nat → Prop) (A : World) (p : Addr) (v : Value) (h : D p.block) : Touch D A (A.setCell p v) := ⟨rfl, rfl, rfl, by simp [World.setCell], fun k _ hn => Below.heap_setCell _ _ _ _ (fun e => hn (e ▸ h))⟩
theorem Touch.cell {D : Nat → Prop} {A B : World} (h : Touch D A B) {p : Addr} (hp : p.block < A.heap.size) (hn : ¬ D p.block) : B.cell? p = A.cell? p := World.cell?_of_block (w := A) (h.block p.block hp hn)
theorem Touch.frozen {D : Nat → Prop} {A B : World} (h : Touch D A B) {p : Addr} (hp : p.block < A.heap.size) (hn : ¬ D p.block) : B.frozen? p = A.frozen? p := World.frozen?_of_block (w := A) (h.block p.block hp hn)
theorem lt_of_cell {w : World} {p : Addr} {v : Value} (h : w.cell? p = some v) : p.block < w.heap.size := World.block_lt_of_cell? _ _ h

/-- A row of words lies behind an address. -/
def WordsAt (w : World) (a : Option Addr) (l : List W64) : Prop := Elems w a 1 (l.map fun x => [.int .u64 (U x)])
theorem WordsAt.at {w : World} {a : Option Addr} {l : List W64} (h : WordsAt w a l) {i : Nat} {x : W64} (hi : l[i]? = some x) :
    ∃ b off, a = some ⟨b, off, none⟩ ∧ b < w.heap.size ∧ w.cell? ⟨b, off + i, none⟩ = some (.int .u64 (U x)) := by
  obtain ⟨b, off, ha, hb, hc⟩ := h i [.int .u64 (U x)] (by simp [hi])
  have := hc 0 _ rfl
  simp only [Nat.mul_one, Nat.add_zero] at this
  exact ⟨b, off, ha, hb, this⟩
theorem WordsAt.mk {w : World} {a : Option Addr} {l : List W64} (h : ∀ i x, l[i]? = some x → ∃ b off, a = some ⟨b, off, none⟩ ∧ b < w.heap.size ∧ w.cell? ⟨b, off + i, none⟩ = some (.int .u64 (U x))) : WordsAt w a l := by
  intro i row hi
  rw [List.getElem?_map] at hi
  obtain ⟨x, hx, rfl⟩ := Option.map_eq_some_iff.1 hi
  obtain ⟨b, off, ha, hb, hc⟩ := h i x hx
  refine ⟨b, off, ha, hb, fun j v hj => ?_⟩
  cases j with
  | zero => simp at hj; subst hj; simpa using hc
  | succ j => simp at hj
theorem WordsAt.below {w w' : World} {a : Option Addr} {l : List W64} (h : WordsAt w a l) (hb : Below w.heap.size w w') : WordsAt w' a l := Elems.below h hb
theorem WordsAt.nil {w : World} {a : Option Addr} : WordsAt w a [] := Elems.nil
theorem WordsAt.tail {w : World} {b off : Nat} {x : W64} {l : List W64} (h : WordsAt w (some ⟨b, off, none⟩) (x :: l)) : WordsAt w (some ⟨b, off + 1, none⟩) l := by
  refine WordsAt.mk fun i y hi => ?_
  obtain ⟨b', off', e, hb, hc⟩ := h.at (i := i + 1) (by simpa using hi)
  cases e
  exact ⟨b, off + 1, rfl, hb, by rw [show off + 1 + i = off + (i + 1) by omega]; exact hc⟩
theorem WordsAt.drop {w : World} {b off : Nat} {l : List W64} (h : WordsAt w (some ⟨b, off, none⟩) l) (n : Nat) : WordsAt w (some ⟨b, off + n, none⟩) (l.drop n) := by
  refine WordsAt.mk fun i y hi => ?_
  rw [List.getElem?_drop] at hi
  obtain ⟨b', off', e, hb, hc⟩ := h.at hi
  cases e
  exact ⟨b, off + n, rfl, hb, by rw [Nat.add_assoc]; exact hc⟩
theorem WordsAt.take {w : World} {a : Option Addr} {l : List W64} (h : WordsAt w a l) (n : Nat) : WordsAt w a (l.take n) := by
  refine WordsAt.mk fun i y hi => ?_
  rw [List.getElem?_take] at hi
  split at hi
  · exact h.at hi
  · cases hi
theorem ownsRow_words {w : World} {base : Nat} {e : TypeId} {v : Value} {n : Nat} {l : List W64} (h : w.ownsRow base e 1 v n (l.map fun x => .int .u64 (U x))) :
    n = l.length ∧ ∃ a cap, v = .slice a n cap ∧ n ≤ cap ∧ cap ≤ maxLen ∧ WordsAt w a l := by
  obtain ⟨h1, h2⟩ := h
  have hn : n = l.length := by simpa using h1.symm
  refine ⟨hn, ?_⟩
  rcases h2 with ⟨rfl, h0⟩ | ⟨g, cap, cur, rfl, hg, hh, h3, h4, h5, h6⟩
  · subst h0
    obtain rfl : l = [] := List.eq_nil_of_length_eq_zero hn.symm
    exact ⟨none, 0, rfl, by omega, by unfold maxLen; omega, WordsAt.nil⟩
  · refine ⟨_, cap, rfl, h3, h4, WordsAt.mk fun i x hi => ⟨g, 0, rfl, (Array.getElem?_eq_some_iff.1 hh).1, ?_⟩⟩
    have hl : i < n := by rw [hn]; exact (List.getElem?_eq_some_iff.1 hi).1
    have : (cur.toList.take (n * 1))[i]? = some (.int .u64 (U x)) := by rw [h6, List.getElem?_map, hi]; rfl
    rw [List.getElem?_take_of_lt (by omega)] at this
    unfold World.cell?
    rw [hh]
    simp only [Nat.zero_add]
    simpa using this

theorem boxed_touch {D : Nat → Prop} {A B : World} {k : Nat} {t : TypeId} {v : Value} (h : Boxed A k t v) (ht : Touch D A B) (hd : ¬ D k) : Boxed B k t v := (ht.block k h.lt hd).trans h
theorem ownsRow_touch {D : Nat → Prop} {A B : World} {base : Nat} {e : TypeId} {size : Nat} {v : Value} {n : Nat} {xs : List Value} (h : A.ownsRow base e size v n xs) (ht : Touch D A B) (hd : ∀ k, v.ownBlock = some k → ¬ D k) : B.ownsRow base e size v n xs := by
  refine ⟨h.1, ?_⟩
  rcases h.2 with hn | ⟨g, cap, cur, rfl, hb, hgg, rest⟩
  · exact .inl hn
  · exact .inr ⟨g, cap, cur, rfl, hb, (ht.block g (Array.getElem?_eq_some_iff.1 hgg).1 (hd g rfl)).trans hgg, rest⟩

/-- A register's word. -/
def atV (v : List W64) (r : Int) : W64 := if r < 0 then 0 else v.getD r.toNat 0
/-- The word that comes from outside. -/
def outV (bl : Bool) (keys masks : List W64) (m : Nat) (k : Int) (c : W64) : W64 := if k = 1 then masks.getD m 0 else if k = 2 ∧ bl = false then keys.getD c.toNat 0 else 0
def cw (o : OpV) : W64 := BitVec.ofInt 64 o.c
def stepV (bl : Bool) (keys opened masks : List W64) (v : List W64) (m t : Nat) (o : OpV) : W64 :=
  if o.kind = 12 ∧ bl = true then opened.getD t 0 else evalW o.kind (cw o) (atV v o.a) (atV v o.b) (atV v o.d) (outV bl keys masks m o.kind (cw o))
def runV (bl : Bool) (keys opened masks : List W64) : List OpV → List W64 → Nat → Nat → List W64
  | [], v, _, _ => v
  | o :: r, v, m, t => runV bl keys opened masks r (v ++ [stepV bl keys opened masks v m t o]) (if o.kind = 1 then m + 1 else m) (if o.kind = 12 then t + 1 else t)
/-- How many ops of a kind there are. -/
def kn (ops : List OpV) (k : Int) : Nat := ops.countP (fun o => o.kind == k)
theorem kn_cons (o : OpV) (r : List OpV) (k : Int) : kn (o :: r) k = kn r k + if o.kind = k then 1 else 0 := by
  unfold kn
  rw [List.countP_cons]
  simp
theorem outV_drop (bl : Bool) (keys masks : List W64) (m : Nat) (k : Int) (c : W64) : outV bl keys (masks.drop m) 0 k c = outV bl keys masks m k c := by
  unfold outV
  have e : (masks.drop m).getD 0 0 = masks.getD m 0 := by simp [List.getD]
  rw [e]
theorem runV_snoc (bl : Bool) (keys opened masks : List W64) (o : OpV) : ∀ (l : List OpV) (v : List W64) (m t : Nat), runV bl keys opened masks (l ++ [o]) v m t =
    runV bl keys opened masks l v m t ++ [stepV bl keys opened masks (runV bl keys opened masks l v m t) (m + kn l 1) (t + kn l 12) o]
  | [], v, m, t => by simp [runV, kn]
  | p :: r, v, m, t => by
    have ih := runV_snoc bl keys opened masks o r (v ++ [stepV bl keys opened masks v m t p]) (if p.kind = 1 then m + 1 else m) (if p.kind = 12 then t + 1 else t)
    rw [List.cons_append]
    show runV bl keys opened masks (r ++ [o]) _ _ _ = _
    rw [ih]
    show _ = runV bl keys opened masks r _ _ _ ++ [stepV _ _ _ _ (runV bl keys opened masks r _ _ _) _ _ _]
    rw [kn_cons, kn_cons]
    have e1 : (if p.kind = 1 then m + 1 else m) + kn r 1 = m + (kn r 1 + if p.kind = 1 then 1 else 0) := by split <;> omega
    have e2 : (if p.kind = 12 then t + 1 else t) + kn r 12 = t + (kn r 12 + if p.kind = 12 then 1 else 0) := by split <;> omega
    rw [e1, e2]
theorem runV_length (bl : Bool) (keys opened masks : List W64) : ∀ (l : List OpV) (v : List W64) (m t : Nat), (runV bl keys opened masks l v m t).length = v.length + l.length
  | [], v, m, t => by simp [runV]
  | p :: r, v, m, t => by
    show (runV bl keys opened masks r _ _ _).length = _
    rw [runV_length bl keys opened masks r]
    simp; omega
/-- The words behind j ops. -/
def upV (bl : Bool) (keys opened masks : List W64) (ops : List OpV) (j : Nat) : List W64 := runV bl keys opened masks (ops.take j) [] 0 0
theorem upV_length {bl : Bool} {keys opened masks : List W64} {ops : List OpV} {j : Nat} (hj : j ≤ ops.length) : (upV bl keys opened masks ops j).length = j := by
  unfold upV
  rw [runV_length, List.length_take]; simp; omega
theorem upV_step {bl : Bool} {keys opened masks : List W64} {ops : List OpV} {j : Nat} {o : OpV} (h : ops[j]? = some o) : upV bl keys opened masks ops (j + 1) =
    upV bl keys opened masks ops j ++ [stepV bl keys opened masks (upV bl keys opened masks ops j) (kn (ops.take j) 1) (kn (ops.take j) 12) o] := by
  obtain ⟨hj, rfl⟩ := List.getElem?_eq_some_iff.1 h
  unfold upV
  rw [List.take_succ_eq_append_getElem hj, runV_snoc]
  simp
theorem kn_step {ops : List OpV} {j : Nat} {o : OpV} (h : ops[j]? = some o) (k : Int) : kn (ops.take (j + 1)) k = kn (ops.take j) k + if o.kind = k then 1 else 0 := by
  obtain ⟨hj, rfl⟩ := List.getElem?_eq_some_iff.1 h
  unfold kn
  rw [List.take_succ_eq_append_getElem hj, List.countP_append]
  congr 1
  by_cases hk : ops[j].kind = k <;> simp [hk]
theorem kn_le_take (ops : List OpV) (j : Nat) (k : Int) : kn (ops.take j) k ≤ kn ops k := (List.take_sublist j ops).countP_le
theorem kn_lt {ops : List OpV} {j : Nat} {o : OpV} (h : ops[j]? = some o) {k : Int} (hk : o.kind = k) : kn (ops.take j) k < kn ops k := by
  have h1 := kn_step h k
  have h2 := kn_le_take ops (j + 1) k
  rw [if_pos hk] at h1
  omega
theorem kn_kc (ops : List OpV) (k : Nat) (h1 : 1 ≤ k) (h2 : k ≤ 12) : kc ops k = (kn ops k : Nat) := by
  unfold kc kn
  congr 1
  refine List.countP_congr fun o _ => ?_
  unfold cls
  constructor
  · intro h
    split at h <;> simp at h ⊢ <;> omega
  · intro h
    simp at h
    rw [if_pos (by omega)]
    simp; omega
end Go.Proofs.Ytdlmijcnjjdbbaa
