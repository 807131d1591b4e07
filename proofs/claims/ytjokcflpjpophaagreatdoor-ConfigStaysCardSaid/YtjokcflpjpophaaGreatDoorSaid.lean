/- (reader).said at the line that the laws' head stands on: a word in it is empty, so it ends with ErrConfLine. Conditions: the map of lines is there, and bytealg.MaxLen is a number. -/
import Derived.Test.YtjokcflpjpophaaGreatDoorLines
import Derived.Test.YtjokcflpjpophaaGreatDoorCaught
import Derived.Test.YtjokcflpjpophaaGreatDoorShelf
namespace Go.Proofs.YtjokcflpjpophaaGreatDoor
open Go.RowKit

/-- The line 'idle  5'. -/
def badLine : ByteArray := ⟨#[105, 100, 108, 101, 32, 32, 53]⟩
def badWords : List ByteArray := [⟨#[105, 100, 108, 101]⟩, ⟨#[]⟩, ⟨#[53]⟩]
theorem badLine_count : Lib.countB badLine ⟨#[32]⟩ = 2 := by decide +kernel
theorem badLine_words : Lib.splitB ⟨#[32]⟩ 0 2 badLine = badWords := by decide +kernel

theorem badSplit (m : Int) (w : World) (hm : w.cell? ⟨2, 0, none⟩ = some (.int .i64 m)) : Calls Tryz.prog 44 #[.string badLine, .string ⟨#[32]⟩] w fun e w' =>
    e = .returned (.slice (some ⟨w.heap.size, 0, none⟩) 3 3) ∧ w' = w.alloc (.cells #[.string ⟨#[105, 100, 108, 101]⟩, .string ⟨#[]⟩, .string ⟨#[53]⟩] 9) := by
  have h := Tryz.strings_Split badLine ⟨#[32]⟩ m w (by decide) hm (by decide)
  rw [badLine_count, badLine_words] at h
  exact h

set_option maxRecDepth 100000 in
set_option maxHeartbeats 1000000 in
theorem said_bad (m : Int) (B : Nat) (rv : Value) (w : World) (hl : LinesAt w B) (hB : B + 30 ≤ w.heap.size) (hm : w.cell? ⟨2, 0, none⟩ = some (.int .i64 m)) :
    Calls Tryz.prog 16 #[rv, .map (some B), .string badLine] w fun e w' => e = .returned (.int .i64 221) ∧ Below w.heap.size w w' := by
  have hmf : ∀ (fn : Fn) (first cap : Array Value) (w : World), (Instr.makeFunc fn first cap).run Tryz.prog w = .ok (.func fn first cap) w := fun _ _ _ _ => rfl
  obtain ⟨W1, hW1⟩ : ∃ W, w.alloc (.cells #[.int .i64 0] 29) = W := ⟨_, rfl⟩
  have y1 : Below w.heap.size w W1 := by rw [← hW1]; exact (Below.refl _ w).alloc (Nat.le_refl _) _
  have z1 : W1.heap.size = w.heap.size + 1 := by rw [← hW1]; simp
  have e1 : Blk W1 w.heap.size #[.int .i64 0] 29 := by rw [← hW1]; exact Blk.new _ _ _
  have hm1 : W1.cell? ⟨2, 0, none⟩ = some (.int .i64 m) := by rw [y1.cell (by simp; omega)]; exact hm
  obtain ⟨W2, hW2⟩ : ∃ W, W1.alloc (.cells #[.string ⟨#[105, 100, 108, 101]⟩, .string ⟨#[]⟩, .string ⟨#[53]⟩] 9) = W := ⟨_, rfl⟩
  have y2 : Below W1.heap.size W1 W2 := by rw [← hW2]; exact (Below.refl _ W1).alloc (Nat.le_refl _) _
  have z2 : W2.heap.size = w.heap.size + 2 := by rw [← hW2]; simp [z1]
  have b2 : Blk W2 W1.heap.size #[.string ⟨#[105, 100, 108, 101]⟩, .string ⟨#[]⟩, .string ⟨#[53]⟩] 9 := by rw [← hW2]; exact Blk.new _ _ _
  have hl2 : LinesAt W2 B := (hl.below y1 hB (Nat.le_refl _)).below y2 (by omega) (Nat.le_refl _)
  have hsp := badSplit m W1 hm1
  rw [hW2] at hsp
  have hlk : (Instr.lookup 60 (.map (some B)) (.string ⟨#[105, 100, 108, 101]⟩) true).run Tryz.prog W2 = .ok (.tuple #[oneV (B + 16), .bool true]) W2 := by
    have := run_mapGet (P := Tryz.prog) (mty := 60) (kt := 9) (et := 84) (k := ⟨#[105, 100, 108, 101]⟩) (v := oneV (B + 16)) (i := 3) (by rfl) (by rfl) hl2.map (by rfl) true
    exact this
  have c0 : W2.cell? ⟨W1.heap.size, 0, none⟩ = some (.string ⟨#[105, 100, 108, 101]⟩) := by rw [b2.cell]; rfl
  obtain ⟨f1, c1, f2, c2, hV⟩ : ∃ f1 c1 f2 c2, oneV (B + 16) = .agg #[.func f1 #[] c1, .func f2 #[] c2] := ⟨_, _, _, _, rfl⟩
  rw [hV] at hlk
  have H := Lib.hid (And.intro hl2 (And.intro b2 (And.intro hW1 (And.intro hW2 (And.intro z1 (And.intro z2 (And.intro y1 y2)))))))
  have hW1' := Lib.hid hW1
  clear hl hl2 b2 hW1 hW2 z1 z2 y1 y2 hm1 hm
  go_enter_defers Tryz.func16, Tryz.ntmps16
  go_wp2_with fail
  rw [hW1'.out]
  refine hsp.mono ?_
  rintro e wx ⟨rfl, rfl⟩
  dsimp only
  go_wp2_with fail
  · refine (Tryz.slices_Contains_string _ 0 3 3 badWords ⟨#[]⟩ _ (by decide) (by decide) ?_).mono ?_
    · intro j hj
      have b2 := H.out.2.1
      have b3 := b2.alloc (.cells #[.func f1 #[] c1, .func f2 #[] c2] 84)
      refine (b3.cell _).trans ?_
      have : j = 0 ∨ j = 1 ∨ j = 2 := by simp [badWords] at hj; omega
      rcases this with rfl | rfl | rfl <;> rfl
    rintro e wy ⟨rfl, rfl⟩
    dsimp only
    go_wp2_with fail
    refine (must_no 221 _).mono ?_
    rintro e wy ⟨rfl, rfl⟩
    obtain ⟨_, b2, hW1, hW2, z1, z2, y1, y2⟩ := H.out
    have e3 : Blk (wx.alloc (.cells #[.func f1 #[] c1, .func f2 #[] c2] 84)) w.heap.size #[.int .i64 0] 29 := (e1.below y2 (by omega)).alloc _
    refine leaves_cons (f := 43) (args := #[.pointer (some ⟨w.heap.size, 0, none⟩)]) (by simp) (by simp [go_sem]) ?_
    refine (caught_panicking ⟨w.heap.size, 0, none⟩ 0 221 [] _ (e3.cell 0) (e3.free 0)).mono ?_
    rintro e u' w'' ⟨rfl, rfl, rfl⟩
    have e4 := e3.set 0 (.int .i64 221)
    have c4 := e4.cell 0
    have g : Below w.heap.size w ((wx.alloc (.cells #[.func f1 #[] c1, .func f2 #[] c2] 84)).setCell ⟨w.heap.size, 0, none⟩ (.int .i64 221)) := ((y1.trans (y2.mono (by omega))).alloc (by omega) _).setCell (by simp) _
    simp [Leaves, settle, results, Tryz.results16, go_sem, c4, g]
end Go.Proofs.YtjokcflpjpophaaGreatDoor
