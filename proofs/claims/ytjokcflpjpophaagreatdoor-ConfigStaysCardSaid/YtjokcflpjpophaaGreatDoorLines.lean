/- config.lines: the map of all lines that a configuration may have, with the functions that read them: laid in new memory. No condition. -/
import Derived.Test.YtjokcflpjpophaaGreatDoorMaps
namespace Go.Proofs.YtjokcflpjpophaaGreatDoor
open Go.RowKit

theorem words_calls (n : Int) (w : World) : Calls Tryz.prog 30 #[.int .i64 n] w fun e w' => e = .returned (.func (.func 57) #[] #[.pointer (some ⟨w.heap.size, 0, none⟩)]) ∧ w.alloc (.cells #[.int .i64 n] 3) = w' := by
  have hmf : ∀ (fn : Fn) (first cap : Array Value) (w : World), (Instr.makeFunc fn first cap).run Tryz.prog w = .ok (.func fn first cap) w := fun _ _ _ _ => rfl
  go_enter Tryz.func30, Tryz.ntmps30
  go_wp2
  go_ret
  exact ⟨rfl, rfl⟩

/-- What 'one' hands back, its five blocks from q on. -/
def oneV (q : Nat) : Value := .agg #[.func (.func 57) #[] #[.pointer (some ⟨q + 4, 0, none⟩)], .func (.func 56) #[] #[.pointer (some ⟨q, 0, none⟩), .pointer (some ⟨q + 1, 0, none⟩), .pointer (some ⟨q + 2, 0, none⟩)]]
def wordsV (q g : Nat) : Value := .agg #[.func (.func 57) #[] #[.pointer (some ⟨q, 0, none⟩)], .func (.func g) #[] #[]]
def plainV (f g : Nat) : Value := .agg #[.func (.func f) #[] #[], .func (.func g) #[] #[]]

/-- The blocks of 'one' from q on. -/
def OneAt (w : World) (q : Nat) (a b : Int) (f : Nat) : Prop := Blk w q #[.int .i64 a] 3 ∧ Blk w (q + 1) #[.int .i64 b] 3 ∧ Blk w (q + 2) #[.func (.func f) #[] #[]] 88 ∧ Blk w (q + 4) #[.int .i64 2] 3
def WordsAt (w : World) (q : Nat) (n : Int) : Prop := Blk w q #[.int .i64 n] 3

theorem OneAt.same {w w' : World} {q : Nat} {a b : Int} {f : Nat} (h : OneAt w q a b f) (k : ∀ j, j < w.heap.size → (w'.heap[j]? = w.heap[j]? ∨ ∃ es c, w.heap[j]? = some (.map es c))) : OneAt w' q a b f := by
  obtain ⟨h1, h2, h3, h4⟩ := h
  have go : ∀ {b : Nat} {c : Array Value} {T : TypeId}, Blk w b c T → Blk w' b c T := fun {b c T} hb => by
    rcases k b hb.lt with e | ⟨es, c', e⟩
    · exact hb.same e
    · rw [show w.heap[b]? = _ from hb] at e; cases e
  exact ⟨go h1, go h2, go h3, go h4⟩
theorem WordsAt.same {w w' : World} {q : Nat} {n : Int} (h : WordsAt w q n) (k : ∀ j, j < w.heap.size → (w'.heap[j]? = w.heap[j]? ∨ ∃ es c, w.heap[j]? = some (.map es c))) : WordsAt w' q n := by
  rcases k q (Blk.lt h) with e | ⟨es, c', e⟩
  · exact Blk.same h e
  · rw [show w.heap[q]? = _ from h] at e; cases e

theorem one_calls (a b : Int) (f : Nat) (w : World) : Calls Tryz.prog 24 #[.int .i64 a, .int .i64 b, .func (.func f) #[] #[]] w fun e w' =>
    e = .returned (oneV w.heap.size) ∧ Below w.heap.size w w' ∧ w'.heap.size = w.heap.size + 5 ∧ OneAt w' w.heap.size a b f := by
  have hmf : ∀ (fn : Fn) (first cap : Array Value) (w : World), (Instr.makeFunc fn first cap).run Tryz.prog w = .ok (.func fn first cap) w := fun _ _ _ _ => rfl
  go_enter Tryz.func24, Tryz.ntmps24
  go_wp2_with (go_at_call 30; refine (words_calls _ _).mono ?_; rintro e w' ⟨rfl, rfl⟩)
  refine bodyPost_ret (v := oneV w.heap.size) (by simp [results, Tryz.results24, go_sem, oneV]) rfl ⟨rfl, ?_, by simp, ?_⟩
  · exact ((((((Below.refl _ w).alloc (Nat.le_refl _) _).alloc (by simp) _).alloc (by simp; omega) _).alloc (by simp; omega) _).alloc (by simp; omega) _)
  · refine ⟨?_, ?_, ?_, ?_⟩ <;> (show (((((w.heap.push _).push _).push _).push _).push _)[_]? = _; simp only [Array.getElem?_push, Array.size_push]; simp [Nat.add_assoc])

/-- All lines, the map in block B, what their functions captured behind it. -/
def lineEntries (B : Nat) : List MapEntry := [
  { key := .string ⟨#[112, 97, 105, 114, 115]⟩, val := oneV (B + 1), born := 0 },
  { key := .string ⟨#[98, 117, 102, 102, 101, 114]⟩, val := oneV (B + 6), born := 1 },
  { key := .string ⟨#[104, 97, 110, 100, 115, 104, 97, 107, 101]⟩, val := oneV (B + 11), born := 2 },
  { key := .string ⟨#[105, 100, 108, 101]⟩, val := oneV (B + 16), born := 3 },
  { key := .string ⟨#[100, 114, 97, 105, 110]⟩, val := oneV (B + 21), born := 4 },
  { key := .string ⟨#[114, 97, 116, 101]⟩, val := wordsV (B + 26) 31, born := 5 },
  { key := .string ⟨#[116, 105, 99, 107, 101, 116, 115]⟩, val := wordsV (B + 27) 34, born := 6 },
  { key := .string ⟨#[99, 108, 105, 101, 110, 116, 115]⟩, val := plainV 36 37, born := 7 },
  { key := .string ⟨#[104, 111, 115, 116]⟩, val := plainV 38 39, born := 8 },
  { key := .string ⟨#[98, 97, 99, 107, 101, 110, 100]⟩, val := wordsV (B + 28) 40, born := 9 },
  { key := .string ⟨#[114, 111, 117, 116, 101]⟩, val := wordsV (B + 29) 41, born := 10 }]
structure LinesAt (w : World) (B : Nat) : Prop where
  map : w.heap[B]? = some (.map (lineEntries B).toArray 11)
  one0 : OneAt w (B + 1) 1 64 25
  one1 : OneAt w (B + 6) 64 65536 26
  one2 : OneAt w (B + 11) 1 600000 27
  one3 : OneAt w (B + 16) 1 600000 28
  one4 : OneAt w (B + 21) 1 600000 29
  words5 : WordsAt w (B + 26) 3
  words6 : WordsAt w (B + 27) 4
  words9 : WordsAt w (B + 28) 5
  words10 : WordsAt w (B + 29) 4

/-- What a step of 'lines' keeps: every block but maps. -/
def KeepCells (w w' : World) : Prop := w.heap.size ≤ w'.heap.size ∧ ∀ j, j < w.heap.size → (w'.heap[j]? = w.heap[j]? ∨ ∃ es c, w.heap[j]? = some (.map es c))
theorem keep_put {w : World} {r : Nat} {o : Obj} {es : Array MapEntry} {c : Nat} (h : w.heap[r]? = some (.map es c)) : KeepCells w (w.putObj r o) :=
  ⟨by simp, fun j _ => by
    by_cases e : j = r
    · subst e; exact .inr ⟨es, c, h⟩
    · exact .inl (World.putObj_heap_other e)⟩
theorem keep_below {w w' : World} (h : Below w.heap.size w w') : KeepCells w w' := ⟨h.size, fun j hj => .inl (h.block j hj)⟩

theorem LinesAt.below {w w' : World} {B D : Nat} (h : LinesAt w B) (hb : Below D w w') (hD : B + 30 ≤ D) (hw : D ≤ w.heap.size) : LinesAt w' B := by
  have go : ∀ {b : Nat} {c : Array Value} {T : TypeId}, b < B + 30 → Blk w b c T → Blk w' b c T := fun {b c T} h1 h2 => h2.below hb (by omega)
  exact { map := (hb.block B (by omega)).trans h.map,
          one0 := ⟨go (by omega) h.one0.1, go (by omega) h.one0.2.1, go (by omega) h.one0.2.2.1, go (by omega) h.one0.2.2.2⟩,
          one1 := ⟨go (by omega) h.one1.1, go (by omega) h.one1.2.1, go (by omega) h.one1.2.2.1, go (by omega) h.one1.2.2.2⟩,
          one2 := ⟨go (by omega) h.one2.1, go (by omega) h.one2.2.1, go (by omega) h.one2.2.2.1, go (by omega) h.one2.2.2.2⟩,
          one3 := ⟨go (by omega) h.one3.1, go (by omega) h.one3.2.1, go (by omega) h.one3.2.2.1, go (by omega) h.one3.2.2.2⟩,
          one4 := ⟨go (by omega) h.one4.1, go (by omega) h.one4.2.1, go (by omega) h.one4.2.2.1, go (by omega) h.one4.2.2.2⟩,
          words5 := go (by omega) h.words5,
          words6 := go (by omega) h.words6,
          words9 := go (by omega) h.words9,
          words10 := go (by omega) h.words10 }

set_option maxRecDepth 100000 in
set_option maxHeartbeats 4000000 in
theorem lines_calls (w : World) : Calls Tryz.prog 14 #[] w fun e w' => e = .returned (.map (some w.heap.size)) ∧ Below w.heap.size w w' ∧ w'.heap.size = w.heap.size + 30 ∧ LinesAt w' w.heap.size := by
  have hmm := @run_makeMap Tryz.prog
  obtain ⟨B, hBeq⟩ : ∃ B, w.heap.size = B := ⟨_, rfl⟩
  rw [hBeq]
  obtain ⟨W0, hW0⟩ : ∃ W0, w.alloc (.map #[] 0) = W0 := ⟨_, rfl⟩
  have z0 : W0.heap.size = B + 1 := by rw [← hW0]; simp [hBeq]
  have m0 : W0.heap[B]? = some (.map (lineEntries B |>.take 0).toArray 0) := by rw [← hW0, ← hBeq]; exact World.alloc_heap_new w _
  have b0 : Below B w W0 := by rw [← hW0]; exact (Below.refl _ w).alloc (by omega) _
  have HZ := Lib.hid hBeq
  clear hBeq
  go_enter Tryz.func14, Tryz.ntmps14
  go_wp2_with fail
  rw [HZ.out]
  clear hW0 HZ
  refine (one_calls _ _ _ _).mono ?_
  rintro e X0 ⟨rfl, bb0, zz0, f0⟩
  have mm0 : X0.heap[B]? = some (.map (lineEntries B |>.take 0).toArray 0) := (bb0.block B (by omega)).trans m0
  have y0 : Below B w X0 := b0.trans (bb0.mono (by omega))
  have kk0 : KeepCells W0 X0 := keep_below bb0
  rw [z0] at zz0 f0
  rw [z0]
  dsimp only
  go_step
  refine wpList_insert (r := B) (k := ⟨#[112, 97, 105, 114, 115]⟩) (v := oneV (B + 1)) Tryz.underlying60 Tryz.underlying9 rfl rfl rfl mm0 (by rfl) ?_
  obtain ⟨W1, hW1⟩ : ∃ W, X0.putObj B (.map ((lineEntries B |>.take 0).toArray.push { key := .string ⟨#[112, 97, 105, 114, 115]⟩, val := oneV (B + 1), born := 0 }) (0 + 1)) = W := ⟨_, rfl⟩
  have z1 : W1.heap.size = B + 6 := by rw [← hW1, World.putObj_size, zz0]
  have m1 : W1.heap[B]? = some (.map (lineEntries B |>.take 1).toArray 1) := by rw [← hW1]; exact World.putObj_heap_same (Array.getElem?_eq_some_iff.1 mm0).1
  have b1 : Below B w W1 := by rw [← hW1]; exact y0.grown (grownBy_putObj' X0 B _) (by rw [zz0]; omega) (fun k e => by cases e; exact Nat.le_refl _)
  have k1 : KeepCells X0 W1 := by rw [← hW1]; exact keep_put mm0
  replace f0 := f0.same k1.2
  rw [hW1]
  clear hW1 kk0 k1 mm0 zz0 y0 bb0 m0 z0 b0
  go_wp2_with fail
  refine (one_calls _ _ _ _).mono ?_
  rintro e X1 ⟨rfl, bb1, zz1, f1⟩
  have mm1 : X1.heap[B]? = some (.map (lineEntries B |>.take 1).toArray 1) := (bb1.block B (by omega)).trans m1
  have y1 : Below B w X1 := b1.trans (bb1.mono (by omega))
  have kk1 : KeepCells W1 X1 := keep_below bb1
  replace f0 := f0.same kk1.2
  rw [z1] at zz1 f1
  rw [z1]
  dsimp only
  go_step
  refine wpList_insert (r := B) (k := ⟨#[98, 117, 102, 102, 101, 114]⟩) (v := oneV (B + 6)) Tryz.underlying60 Tryz.underlying9 rfl rfl rfl mm1 (by rfl) ?_
  obtain ⟨W2, hW2⟩ : ∃ W, X1.putObj B (.map ((lineEntries B |>.take 1).toArray.push { key := .string ⟨#[98, 117, 102, 102, 101, 114]⟩, val := oneV (B + 6), born := 1 }) (1 + 1)) = W := ⟨_, rfl⟩
  have z2 : W2.heap.size = B + 11 := by rw [← hW2, World.putObj_size, zz1]
  have m2 : W2.heap[B]? = some (.map (lineEntries B |>.take 2).toArray 2) := by rw [← hW2]; exact World.putObj_heap_same (Array.getElem?_eq_some_iff.1 mm1).1
  have b2 : Below B w W2 := by rw [← hW2]; exact y1.grown (grownBy_putObj' X1 B _) (by rw [zz1]; omega) (fun k e => by cases e; exact Nat.le_refl _)
  have k2 : KeepCells X1 W2 := by rw [← hW2]; exact keep_put mm1
  replace f0 := f0.same k2.2
  replace f1 := f1.same k2.2
  rw [hW2]
  clear hW2 kk1 k2 mm1 zz1 y1 bb1 m1 z1 b1
  go_wp2_with fail
  refine (one_calls _ _ _ _).mono ?_
  rintro e X2 ⟨rfl, bb2, zz2, f2⟩
  have mm2 : X2.heap[B]? = some (.map (lineEntries B |>.take 2).toArray 2) := (bb2.block B (by omega)).trans m2
  have y2 : Below B w X2 := b2.trans (bb2.mono (by omega))
  have kk2 : KeepCells W2 X2 := keep_below bb2
  replace f0 := f0.same kk2.2
  replace f1 := f1.same kk2.2
  rw [z2] at zz2 f2
  rw [z2]
  dsimp only
  go_step
  refine wpList_insert (r := B) (k := ⟨#[104, 97, 110, 100, 115, 104, 97, 107, 101]⟩) (v := oneV (B + 11)) Tryz.underlying60 Tryz.underlying9 rfl rfl rfl mm2 (by rfl) ?_
  obtain ⟨W3, hW3⟩ : ∃ W, X2.putObj B (.map ((lineEntries B |>.take 2).toArray.push { key := .string ⟨#[104, 97, 110, 100, 115, 104, 97, 107, 101]⟩, val := oneV (B + 11), born := 2 }) (2 + 1)) = W := ⟨_, rfl⟩
  have z3 : W3.heap.size = B + 16 := by rw [← hW3, World.putObj_size, zz2]
  have m3 : W3.heap[B]? = some (.map (lineEntries B |>.take 3).toArray 3) := by rw [← hW3]; exact World.putObj_heap_same (Array.getElem?_eq_some_iff.1 mm2).1
  have b3 : Below B w W3 := by rw [← hW3]; exact y2.grown (grownBy_putObj' X2 B _) (by rw [zz2]; omega) (fun k e => by cases e; exact Nat.le_refl _)
  have k3 : KeepCells X2 W3 := by rw [← hW3]; exact keep_put mm2
  replace f0 := f0.same k3.2
  replace f1 := f1.same k3.2
  replace f2 := f2.same k3.2
  rw [hW3]
  clear hW3 kk2 k3 mm2 zz2 y2 bb2 m2 z2 b2
  go_wp2_with fail
  refine (one_calls _ _ _ _).mono ?_
  rintro e X3 ⟨rfl, bb3, zz3, f3⟩
  have mm3 : X3.heap[B]? = some (.map (lineEntries B |>.take 3).toArray 3) := (bb3.block B (by omega)).trans m3
  have y3 : Below B w X3 := b3.trans (bb3.mono (by omega))
  have kk3 : KeepCells W3 X3 := keep_below bb3
  replace f0 := f0.same kk3.2
  replace f1 := f1.same kk3.2
  replace f2 := f2.same kk3.2
  rw [z3] at zz3 f3
  rw [z3]
  dsimp only
  go_step
  refine wpList_insert (r := B) (k := ⟨#[105, 100, 108, 101]⟩) (v := oneV (B + 16)) Tryz.underlying60 Tryz.underlying9 rfl rfl rfl mm3 (by rfl) ?_
  obtain ⟨W4, hW4⟩ : ∃ W, X3.putObj B (.map ((lineEntries B |>.take 3).toArray.push { key := .string ⟨#[105, 100, 108, 101]⟩, val := oneV (B + 16), born := 3 }) (3 + 1)) = W := ⟨_, rfl⟩
  have z4 : W4.heap.size = B + 21 := by rw [← hW4, World.putObj_size, zz3]
  have m4 : W4.heap[B]? = some (.map (lineEntries B |>.take 4).toArray 4) := by rw [← hW4]; exact World.putObj_heap_same (Array.getElem?_eq_some_iff.1 mm3).1
  have b4 : Below B w W4 := by rw [← hW4]; exact y3.grown (grownBy_putObj' X3 B _) (by rw [zz3]; omega) (fun k e => by cases e; exact Nat.le_refl _)
  have k4 : KeepCells X3 W4 := by rw [← hW4]; exact keep_put mm3
  replace f0 := f0.same k4.2
  replace f1 := f1.same k4.2
  replace f2 := f2.same k4.2
  replace f3 := f3.same k4.2
  rw [hW4]
  clear hW4 kk3 k4 mm3 zz3 y3 bb3 m3 z3 b3
  go_wp2_with fail
  refine (one_calls _ _ _ _).mono ?_
  rintro e X4 ⟨rfl, bb4, zz4, f4⟩
  have mm4 : X4.heap[B]? = some (.map (lineEntries B |>.take 4).toArray 4) := (bb4.block B (by omega)).trans m4
  have y4 : Below B w X4 := b4.trans (bb4.mono (by omega))
  have kk4 : KeepCells W4 X4 := keep_below bb4
  replace f0 := f0.same kk4.2
  replace f1 := f1.same kk4.2
  replace f2 := f2.same kk4.2
  replace f3 := f3.same kk4.2
  rw [z4] at zz4 f4
  rw [z4]
  dsimp only
  go_step
  refine wpList_insert (r := B) (k := ⟨#[100, 114, 97, 105, 110]⟩) (v := oneV (B + 21)) Tryz.underlying60 Tryz.underlying9 rfl rfl rfl mm4 (by rfl) ?_
  obtain ⟨W5, hW5⟩ : ∃ W, X4.putObj B (.map ((lineEntries B |>.take 4).toArray.push { key := .string ⟨#[100, 114, 97, 105, 110]⟩, val := oneV (B + 21), born := 4 }) (4 + 1)) = W := ⟨_, rfl⟩
  have z5 : W5.heap.size = B + 26 := by rw [← hW5, World.putObj_size, zz4]
  have m5 : W5.heap[B]? = some (.map (lineEntries B |>.take 5).toArray 5) := by rw [← hW5]; exact World.putObj_heap_same (Array.getElem?_eq_some_iff.1 mm4).1
  have b5 : Below B w W5 := by rw [← hW5]; exact y4.grown (grownBy_putObj' X4 B _) (by rw [zz4]; omega) (fun k e => by cases e; exact Nat.le_refl _)
  have k5 : KeepCells X4 W5 := by rw [← hW5]; exact keep_put mm4
  replace f0 := f0.same k5.2
  replace f1 := f1.same k5.2
  replace f2 := f2.same k5.2
  replace f3 := f3.same k5.2
  replace f4 := f4.same k5.2
  rw [hW5]
  clear hW5 kk4 k5 mm4 zz4 y4 bb4 m4 z4 b4
  go_wp2_with fail
  refine (words_calls _ _).mono ?_
  rintro e X5 ⟨rfl, hX5⟩
  have bb5 : Below W5.heap.size W5 X5 := by rw [← hX5]; exact (Below.refl _ _).alloc (Nat.le_refl _) _
  have zz5 : X5.heap.size = W5.heap.size + 1 := by rw [← hX5]; simp
  have f5 : WordsAt X5 W5.heap.size 3 := by rw [← hX5]; exact Blk.new _ _ _
  clear hX5
  have mm5 : X5.heap[B]? = some (.map (lineEntries B |>.take 5).toArray 5) := (bb5.block B (by omega)).trans m5
  have y5 : Below B w X5 := b5.trans (bb5.mono (by omega))
  have kk5 : KeepCells W5 X5 := keep_below bb5
  replace f0 := f0.same kk5.2
  replace f1 := f1.same kk5.2
  replace f2 := f2.same kk5.2
  replace f3 := f3.same kk5.2
  replace f4 := f4.same kk5.2
  rw [z5] at zz5 f5
  rw [z5]
  dsimp only
  go_step
  go_step
  go_step
  go_step
  refine wpList_insert (r := B) (k := ⟨#[114, 97, 116, 101]⟩) (v := wordsV (B + 26) 31) Tryz.underlying60 Tryz.underlying9 rfl rfl rfl mm5 (by rfl) ?_
  obtain ⟨W6, hW6⟩ : ∃ W, X5.putObj B (.map ((lineEntries B |>.take 5).toArray.push { key := .string ⟨#[114, 97, 116, 101]⟩, val := wordsV (B + 26) 31, born := 5 }) (5 + 1)) = W := ⟨_, rfl⟩
  have z6 : W6.heap.size = B + 27 := by rw [← hW6, World.putObj_size, zz5]
  have m6 : W6.heap[B]? = some (.map (lineEntries B |>.take 6).toArray 6) := by rw [← hW6]; exact World.putObj_heap_same (Array.getElem?_eq_some_iff.1 mm5).1
  have b6 : Below B w W6 := by rw [← hW6]; exact y5.grown (grownBy_putObj' X5 B _) (by rw [zz5]; omega) (fun k e => by cases e; exact Nat.le_refl _)
  have k6 : KeepCells X5 W6 := by rw [← hW6]; exact keep_put mm5
  replace f0 := f0.same k6.2
  replace f1 := f1.same k6.2
  replace f2 := f2.same k6.2
  replace f3 := f3.same k6.2
  replace f4 := f4.same k6.2
  replace f5 := f5.same k6.2
  rw [hW6]
  clear hW6 kk5 k6 mm5 zz5 y5 bb5 m5 z5 b5
  go_wp2_with fail
  refine (words_calls _ _).mono ?_
  rintro e X6 ⟨rfl, hX6⟩
  have bb6 : Below W6.heap.size W6 X6 := by rw [← hX6]; exact (Below.refl _ _).alloc (Nat.le_refl _) _
  have zz6 : X6.heap.size = W6.heap.size + 1 := by rw [← hX6]; simp
  have f6 : WordsAt X6 W6.heap.size 4 := by rw [← hX6]; exact Blk.new _ _ _
  clear hX6
  have mm6 : X6.heap[B]? = some (.map (lineEntries B |>.take 6).toArray 6) := (bb6.block B (by omega)).trans m6
  have y6 : Below B w X6 := b6.trans (bb6.mono (by omega))
  have kk6 : KeepCells W6 X6 := keep_below bb6
  replace f0 := f0.same kk6.2
  replace f1 := f1.same kk6.2
  replace f2 := f2.same kk6.2
  replace f3 := f3.same kk6.2
  replace f4 := f4.same kk6.2
  replace f5 := f5.same kk6.2
  rw [z6] at zz6 f6
  rw [z6]
  dsimp only
  go_step
  go_step
  go_step
  go_step
  refine wpList_insert (r := B) (k := ⟨#[116, 105, 99, 107, 101, 116, 115]⟩) (v := wordsV (B + 27) 34) Tryz.underlying60 Tryz.underlying9 rfl rfl rfl mm6 (by rfl) ?_
  obtain ⟨W7, hW7⟩ : ∃ W, X6.putObj B (.map ((lineEntries B |>.take 6).toArray.push { key := .string ⟨#[116, 105, 99, 107, 101, 116, 115]⟩, val := wordsV (B + 27) 34, born := 6 }) (6 + 1)) = W := ⟨_, rfl⟩
  have z7 : W7.heap.size = B + 28 := by rw [← hW7, World.putObj_size, zz6]
  have m7 : W7.heap[B]? = some (.map (lineEntries B |>.take 7).toArray 7) := by rw [← hW7]; exact World.putObj_heap_same (Array.getElem?_eq_some_iff.1 mm6).1
  have b7 : Below B w W7 := by rw [← hW7]; exact y6.grown (grownBy_putObj' X6 B _) (by rw [zz6]; omega) (fun k e => by cases e; exact Nat.le_refl _)
  have k7 : KeepCells X6 W7 := by rw [← hW7]; exact keep_put mm6
  replace f0 := f0.same k7.2
  replace f1 := f1.same k7.2
  replace f2 := f2.same k7.2
  replace f3 := f3.same k7.2
  replace f4 := f4.same k7.2
  replace f5 := f5.same k7.2
  replace f6 := f6.same k7.2
  rw [hW7]
  clear hW7 kk6 k7 mm6 zz6 y6 bb6 m6 z6 b6
  obtain ⟨X7, hX7⟩ : ∃ X, X = W7 := ⟨_, rfl⟩
  rw [← hX7]
  have bb7 : Below W7.heap.size W7 X7 := by rw [hX7]; exact Below.refl _ _
  have zz7 : X7.heap.size = W7.heap.size := by rw [hX7]
  clear hX7
  have mm7 : X7.heap[B]? = some (.map (lineEntries B |>.take 7).toArray 7) := (bb7.block B (by omega)).trans m7
  have y7 : Below B w X7 := b7.trans (bb7.mono (by omega))
  have kk7 : KeepCells W7 X7 := keep_below bb7
  replace f0 := f0.same kk7.2
  replace f1 := f1.same kk7.2
  replace f2 := f2.same kk7.2
  replace f3 := f3.same kk7.2
  replace f4 := f4.same kk7.2
  replace f5 := f5.same kk7.2
  replace f6 := f6.same kk7.2
  rw [z7] at zz7
  go_step
  go_step
  go_step
  refine wpList_insert (r := B) (k := ⟨#[99, 108, 105, 101, 110, 116, 115]⟩) (v := plainV 36 37) Tryz.underlying60 Tryz.underlying9 rfl rfl rfl mm7 (by rfl) ?_
  obtain ⟨W8, hW8⟩ : ∃ W, X7.putObj B (.map ((lineEntries B |>.take 7).toArray.push { key := .string ⟨#[99, 108, 105, 101, 110, 116, 115]⟩, val := plainV 36 37, born := 7 }) (7 + 1)) = W := ⟨_, rfl⟩
  have z8 : W8.heap.size = B + 28 := by rw [← hW8, World.putObj_size, zz7]
  have m8 : W8.heap[B]? = some (.map (lineEntries B |>.take 8).toArray 8) := by rw [← hW8]; exact World.putObj_heap_same (Array.getElem?_eq_some_iff.1 mm7).1
  have b8 : Below B w W8 := by rw [← hW8]; exact y7.grown (grownBy_putObj' X7 B _) (by rw [zz7]; omega) (fun k e => by cases e; exact Nat.le_refl _)
  have k8 : KeepCells X7 W8 := by rw [← hW8]; exact keep_put mm7
  replace f0 := f0.same k8.2
  replace f1 := f1.same k8.2
  replace f2 := f2.same k8.2
  replace f3 := f3.same k8.2
  replace f4 := f4.same k8.2
  replace f5 := f5.same k8.2
  replace f6 := f6.same k8.2
  rw [hW8]
  clear hW8 kk7 k8 mm7 zz7 y7 bb7 m7 z7 b7
  obtain ⟨X8, hX8⟩ : ∃ X, X = W8 := ⟨_, rfl⟩
  rw [← hX8]
  have bb8 : Below W8.heap.size W8 X8 := by rw [hX8]; exact Below.refl _ _
  have zz8 : X8.heap.size = W8.heap.size := by rw [hX8]
  clear hX8
  have mm8 : X8.heap[B]? = some (.map (lineEntries B |>.take 8).toArray 8) := (bb8.block B (by omega)).trans m8
  have y8 : Below B w X8 := b8.trans (bb8.mono (by omega))
  have kk8 : KeepCells W8 X8 := keep_below bb8
  replace f0 := f0.same kk8.2
  replace f1 := f1.same kk8.2
  replace f2 := f2.same kk8.2
  replace f3 := f3.same kk8.2
  replace f4 := f4.same kk8.2
  replace f5 := f5.same kk8.2
  replace f6 := f6.same kk8.2
  rw [z8] at zz8
  go_step
  go_step
  go_step
  refine wpList_insert (r := B) (k := ⟨#[104, 111, 115, 116]⟩) (v := plainV 38 39) Tryz.underlying60 Tryz.underlying9 rfl rfl rfl mm8 (by rfl) ?_
  obtain ⟨W9, hW9⟩ : ∃ W, X8.putObj B (.map ((lineEntries B |>.take 8).toArray.push { key := .string ⟨#[104, 111, 115, 116]⟩, val := plainV 38 39, born := 8 }) (8 + 1)) = W := ⟨_, rfl⟩
  have z9 : W9.heap.size = B + 28 := by rw [← hW9, World.putObj_size, zz8]
  have m9 : W9.heap[B]? = some (.map (lineEntries B |>.take 9).toArray 9) := by rw [← hW9]; exact World.putObj_heap_same (Array.getElem?_eq_some_iff.1 mm8).1
  have b9 : Below B w W9 := by rw [← hW9]; exact y8.grown (grownBy_putObj' X8 B _) (by rw [zz8]; omega) (fun k e => by cases e; exact Nat.le_refl _)
  have k9 : KeepCells X8 W9 := by rw [← hW9]; exact keep_put mm8
  replace f0 := f0.same k9.2
  replace f1 := f1.same k9.2
  replace f2 := f2.same k9.2
  replace f3 := f3.same k9.2
  replace f4 := f4.same k9.2
  replace f5 := f5.same k9.2
  replace f6 := f6.same k9.2
  rw [hW9]
  clear hW9 kk8 k9 mm8 zz8 y8 bb8 m8 z8 b8
  go_wp2_with fail
  refine (words_calls _ _).mono ?_
  rintro e X9 ⟨rfl, hX9⟩
  have bb9 : Below W9.heap.size W9 X9 := by rw [← hX9]; exact (Below.refl _ _).alloc (Nat.le_refl _) _
  have zz9 : X9.heap.size = W9.heap.size + 1 := by rw [← hX9]; simp
  have f9 : WordsAt X9 W9.heap.size 5 := by rw [← hX9]; exact Blk.new _ _ _
  clear hX9
  have mm9 : X9.heap[B]? = some (.map (lineEntries B |>.take 9).toArray 9) := (bb9.block B (by omega)).trans m9
  have y9 : Below B w X9 := b9.trans (bb9.mono (by omega))
  have kk9 : KeepCells W9 X9 := keep_below bb9
  replace f0 := f0.same kk9.2
  replace f1 := f1.same kk9.2
  replace f2 := f2.same kk9.2
  replace f3 := f3.same kk9.2
  replace f4 := f4.same kk9.2
  replace f5 := f5.same kk9.2
  replace f6 := f6.same kk9.2
  rw [z9] at zz9 f9
  rw [z9]
  dsimp only
  go_step
  go_step
  go_step
  go_step
  refine wpList_insert (r := B) (k := ⟨#[98, 97, 99, 107, 101, 110, 100]⟩) (v := wordsV (B + 28) 40) Tryz.underlying60 Tryz.underlying9 rfl rfl rfl mm9 (by rfl) ?_
  obtain ⟨W10, hW10⟩ : ∃ W, X9.putObj B (.map ((lineEntries B |>.take 9).toArray.push { key := .string ⟨#[98, 97, 99, 107, 101, 110, 100]⟩, val := wordsV (B + 28) 40, born := 9 }) (9 + 1)) = W := ⟨_, rfl⟩
  have z10 : W10.heap.size = B + 29 := by rw [← hW10, World.putObj_size, zz9]
  have m10 : W10.heap[B]? = some (.map (lineEntries B |>.take 10).toArray 10) := by rw [← hW10]; exact World.putObj_heap_same (Array.getElem?_eq_some_iff.1 mm9).1
  have b10 : Below B w W10 := by rw [← hW10]; exact y9.grown (grownBy_putObj' X9 B _) (by rw [zz9]; omega) (fun k e => by cases e; exact Nat.le_refl _)
  have k10 : KeepCells X9 W10 := by rw [← hW10]; exact keep_put mm9
  replace f0 := f0.same k10.2
  replace f1 := f1.same k10.2
  replace f2 := f2.same k10.2
  replace f3 := f3.same k10.2
  replace f4 := f4.same k10.2
  replace f5 := f5.same k10.2
  replace f6 := f6.same k10.2
  replace f9 := f9.same k10.2
  rw [hW10]
  clear hW10 kk9 k10 mm9 zz9 y9 bb9 m9 z9 b9
  go_wp2_with fail
  refine (words_calls _ _).mono ?_
  rintro e X10 ⟨rfl, hX10⟩
  have bb10 : Below W10.heap.size W10 X10 := by rw [← hX10]; exact (Below.refl _ _).alloc (Nat.le_refl _) _
  have zz10 : X10.heap.size = W10.heap.size + 1 := by rw [← hX10]; simp
  have f10 : WordsAt X10 W10.heap.size 4 := by rw [← hX10]; exact Blk.new _ _ _
  clear hX10
  have mm10 : X10.heap[B]? = some (.map (lineEntries B |>.take 10).toArray 10) := (bb10.block B (by omega)).trans m10
  have y10 : Below B w X10 := b10.trans (bb10.mono (by omega))
  have kk10 : KeepCells W10 X10 := keep_below bb10
  replace f0 := f0.same kk10.2
  replace f1 := f1.same kk10.2
  replace f2 := f2.same kk10.2
  replace f3 := f3.same kk10.2
  replace f4 := f4.same kk10.2
  replace f5 := f5.same kk10.2
  replace f6 := f6.same kk10.2
  replace f9 := f9.same kk10.2
  rw [z10] at zz10 f10
  rw [z10]
  dsimp only
  go_step
  go_step
  go_step
  go_step
  refine wpList_insert (r := B) (k := ⟨#[114, 111, 117, 116, 101]⟩) (v := wordsV (B + 29) 41) Tryz.underlying60 Tryz.underlying9 rfl rfl rfl mm10 (by rfl) ?_
  obtain ⟨W11, hW11⟩ : ∃ W, X10.putObj B (.map ((lineEntries B |>.take 10).toArray.push { key := .string ⟨#[114, 111, 117, 116, 101]⟩, val := wordsV (B + 29) 41, born := 10 }) (10 + 1)) = W := ⟨_, rfl⟩
  have z11 : W11.heap.size = B + 30 := by rw [← hW11, World.putObj_size, zz10]
  have m11 : W11.heap[B]? = some (.map (lineEntries B |>.take 11).toArray 11) := by rw [← hW11]; exact World.putObj_heap_same (Array.getElem?_eq_some_iff.1 mm10).1
  have b11 : Below B w W11 := by rw [← hW11]; exact y10.grown (grownBy_putObj' X10 B _) (by rw [zz10]; omega) (fun k e => by cases e; exact Nat.le_refl _)
  have k11 : KeepCells X10 W11 := by rw [← hW11]; exact keep_put mm10
  replace f0 := f0.same k11.2
  replace f1 := f1.same k11.2
  replace f2 := f2.same k11.2
  replace f3 := f3.same k11.2
  replace f4 := f4.same k11.2
  replace f5 := f5.same k11.2
  replace f6 := f6.same k11.2
  replace f9 := f9.same k11.2
  replace f10 := f10.same k11.2
  rw [hW11]
  clear hW11 kk10 k11 mm10 zz10 y10 bb10 m10 z10 b10
  go_wp2
  go_ret
  exact ⟨rfl, b11, z11, { map := m11, one0 := f0, one1 := f1, one2 := f2, one3 := f3, one4 := f4, words5 := f5, words6 := f6, words9 := f9, words10 := f10 }⟩
end Go.Proofs.YtjokcflpjpophaaGreatDoor
