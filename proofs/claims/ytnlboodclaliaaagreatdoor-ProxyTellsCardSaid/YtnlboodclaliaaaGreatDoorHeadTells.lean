/- The laws' head of layer 23 is true in every world. No condition. -/
import Derived.Test.YtnlboodclaliaaaGreatDoorTwin
import Derived.Laws.AppendOwnNone
namespace Go.Proofs.YtnlboodclaliaaaGreatDoor
open Go.RowKit Go.Lib

theorem new_nil (s : ByteArray) (r : Value) (n : Int) (w : World) : Calls Tryz.prog 7 #[.pointer none, .string s, r, .int .u64 n] w fun e w' => e = .returned (.tuple #[.pointer none, .int .i64 0, .int .i64 1]) ∧ w = w' := by
  go_enter Tryz.func7, Tryz.ntmps7
  go_wp2
  refine bodyPost_ret (v := .tuple #[.pointer none, .int .i64 0, .int .i64 1]) (by simp [results, Tryz.results7, go_sem]) rfl ⟨rfl, rfl⟩
theorem new_some (a : Addr) (s : ByteArray) (n : Int) (w : World) : Calls Tryz.prog 7 #[.pointer (some a), .string s, .pointer none, .int .u64 n] w fun e w' => e = .returned (.tuple #[.pointer none, .int .i64 0, .int .i64 1]) ∧ w = w' := by
  go_enter Tryz.func7, Tryz.ntmps7
  go_wp2
  refine bodyPost_ret (v := .tuple #[.pointer none, .int .i64 0, .int .i64 1]) (by simp [results, Tryz.results7, go_sem]) rfl ⟨rfl, rfl⟩
theorem files_new (w : World) : Calls Tryz.prog 8 #[] w fun e w' => e = .returned (.pointer (some ⟨w.heap.size + 1, 0, none⟩)) ∧ Below w.heap.size w w' := by
  have hmm := @run_makeMap Tryz.prog
  go_enter Tryz.func8, Tryz.ntmps8
  go_wp2
  go_ret
  exact ⟨rfl, ((Below.refl _ w).alloc (Nat.le_refl _) _).alloc (by simp) _⟩
theorem new_rand (n : Int) (w : World) : Calls Tryz.prog 9 #[.slice none 0 0, .int .u64 n] w fun e w' => e = .returned (.pointer (some ⟨w.heap.size, 0, none⟩)) ∧ Below w.heap.size w w' := by
  go_enter Tryz.func9, Tryz.ntmps9
  go_wp2
  go_ret
  exact ⟨rfl, (Below.refl _ w).alloc (Nat.le_refl _) _⟩

theorem tell_nil (k : Int) : tell k ⟨#[]⟩ = [] := by
  unfold tell
  rw [if_pos (by rw [cut_empty, ByteArray.toList_eq]; rfl)]
theorem header_head (w : World) : Calls Tryz.prog 5 #[.int .i64 1, .int .i64 2, .int .i64 3, .string ⟨#[]⟩, .string ⟨#[]⟩] w fun e w' =>
    ∃ g cap, e = .returned (.slice (some ⟨g, 0, none⟩) 28 cap) ∧ g < w'.heap.size ∧ Below w.heap.size w w' ∧ w'.cell? ⟨g, 12, none⟩ = some (.int .u8 33) ∧ w'.cell? ⟨g, 15, none⟩ = some (.int .u8 12) ∧ w'.cell? ⟨g, 19, none⟩ = some (.int .u8 1) := by
  refine (header_calls 1 2 3 ⟨#[]⟩ ⟨#[]⟩ (by decide) (by decide) w).mono ?_
  rintro e w' ⟨g, cap, he, _, hg, hb, hc⟩
  unfold bodyB at he hc
  rw [tell_nil, tell_nil] at he hc
  exact ⟨g, cap, he, hg, hb, hc 12 _ rfl, hc 15 _ rfl, hc 19 _ rfl⟩

set_option maxRecDepth 100000 in
set_option maxHeartbeats 8000000 in
theorem head_calls (w : World) : Calls Tryz.prog 4 #[] w fun e w' => e = .returned (.bool true) ∧ Below w.heap.size w w' := by
  go_enter Tryz.func4, Tryz.ntmps4
  go_wp2_with fail
  refine (header_head w).mono ?_
  rintro e w1 ⟨g, cap, rfl, hg, B1, c12, c15, c19⟩
  dsimp only
  go_wp2_with fail
  refine (new_nil _ _ _ _).mono ?_
  rintro e w0 ⟨rfl, rfl⟩
  dsimp only
  go_wp2_with fail
  refine (files_new _).mono ?_
  rintro e w2 ⟨rfl, B2⟩
  have d12 := (B2.cell (p := ⟨g, 12, none⟩) hg).trans c12
  have d15 := (B2.cell (p := ⟨g, 15, none⟩) hg).trans c15
  have d19 := (B2.cell (p := ⟨g, 19, none⟩) hg).trans c19
  have hg2 := Nat.lt_of_lt_of_le hg B2.size
  dsimp only
  go_wp2_with fail
  refine (new_some _ _ _ _).mono ?_
  rintro e w0 ⟨rfl, rfl⟩
  dsimp only
  go_wp2_with fail
  refine (new_rand _ _).mono ?_
  rintro e w3 ⟨rfl, B3⟩
  have f12 := (B3.cell (p := ⟨g, 12, none⟩) hg2).trans d12
  have f15 := (B3.cell (p := ⟨g, 15, none⟩) hg2).trans d15
  have f19 := (B3.cell (p := ⟨g, 19, none⟩) hg2).trans d19
  clear c12 c15 c19 d12 d15 d19
  dsimp only
  go_wp2_with fail
  refine (new_nil _ _ _ _).mono ?_
  rintro e w0 ⟨rfl, rfl⟩
  dsimp only
  go_upto_if 50 with (fail)
  go_cut [] from 11 (fun wc => wc = w3)
  case first =>
    go_wp2
    all_goals go_meet
    all_goals rfl
  case rest =>
    have e1 := hcut.symm
    subst e1
    go_upto_region 7 with (fail)
    clear hcut
    go_wp2
    go_ret
    have B12 := B1.trans (B2.mono B1.size)
    exact ⟨rfl, B12.trans (B3.mono B12.size)⟩
end Go.Proofs.YtnlboodclaliaaaGreatDoor
