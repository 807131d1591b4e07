/- The laws' head: config.Parse refuses the second line of a text with 221, config.New is there. Conditions: bytealg.MaxLen is a number. -/
import Derived.Test.YtjokcflpjpophaaGreatDoorParse
namespace Go.Proofs.YtjokcflpjpophaaGreatDoor
open Go.RowKit

theorem New_calls (w : World) : Calls Tryz.prog 13 #[] w fun e w' => (∃ a, e = .returned (.pointer (some a))) ∧ Below w.heap.size w w' := by
  go_enter Tryz.func13, Tryz.ntmps13
  go_wp2
  go_ret
  exact ⟨⟨_, rfl⟩, (Below.refl _ w).alloc (Nat.le_refl _) _⟩

set_option maxRecDepth 100000 in
set_option maxHeartbeats 2000000 in
theorem head_calls (m : Int) (w : World) (h2 : 2 < w.heap.size) (hm : w.cell? ⟨2, 0, none⟩ = some (.int .i64 m)) :
    Calls Tryz.prog 6 #[] w fun e w' => e = .returned (.bool true) ∧ Below w.heap.size w w' := by
  have kc := fun (w : World) (C : Array Value) (n c : Nat) => Lib.run_convert_bytes_const (P := Tryz.prog) w 32 5 C n c Tryz.underlying32 Tryz.underlying5
  go_enter Tryz.func6, Tryz.ntmps6
  go_wp2_with fail
  have hb : ∀ j (hj : j < headBytes.length), (w.alloc (.cells #[.int .u8 35, .int .u8 32, .int .u8 97, .int .u8 10, .int .u8 105, .int .u8 100, .int .u8 108, .int .u8 101, .int .u8 32, .int .u8 32, .int .u8 53] 5 (11, 12))).cell? ⟨w.heap.size, j, none⟩ = some (.int .u8 (headBytes[j].toNat : Int)) := fun j hj => by
    rw [World.cell?_alloc_mark]
    have hj' : j < 11 := hj
    match j, hj' with
    | 0, _ | 1, _ | 2, _ | 3, _ | 4, _ | 5, _ | 6, _ | 7, _ | 8, _ | 9, _ | 10, _ => rfl
  have hB0 : Below w.heap.size w (w.alloc (.cells #[.int .u8 35, .int .u8 32, .int .u8 97, .int .u8 10, .int .u8 105, .int .u8 100, .int .u8 108, .int .u8 101, .int .u8 32, .int .u8 32, .int .u8 53] 5 (11, 12))) := (Below.refl _ w).alloc (Nat.le_refl _) _
  have hP := Parse_head w.heap.size 11 m _ (by simp) hb (by simp; omega) ((hB0.cell h2).trans hm)
  simp only [confZ] at hP
  refine hP.mono ?_
  rintro e w1 ⟨rfl, hB1⟩
  clear hP hb
  dsimp only
  go_wp2_with (go_at_call 13; refine (New_calls _).mono ?_; rintro e w' ⟨⟨a, rfl⟩, hB2⟩)
  have hs1 := hB1.size
  simp only [World.size_alloc] at hs1
  go_ret
  exact ⟨rfl, (((hB0.trans (hB1.mono (by simp))).alloc (by omega) _).trans (hB2.mono (by simp; omega)))⟩
end Go.Proofs.YtjokcflpjpophaaGreatDoor
