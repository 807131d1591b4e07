/- config.Route and its plain twin where there are no routes: -1. No condition. -/
import Derived.Test.YtjokcflpjpophaaGreatDoorRoute
import Derived.Test.YtjokcflpjpophaaGreatDoorRoute2
namespace Go.Proofs.YtjokcflpjpophaaGreatDoor
open Go.RowKit

set_option maxRecDepth 100000 in
set_option maxHeartbeats 2000000 in
theorem Route_none (C : Array Value) (A : Option Addr) (cap : Nat) (host proto : ByteArray) (hC : C[27]? = some (.slice A 0 cap)) (w : World) :
    Calls Tryz.prog 11 #[.agg C, .string host, .string proto] w fun e w' => e = .returned (.int .i64 (-1)) ∧ Below w.heap.size w w' := by
  go_enter Tryz.func11, Tryz.ntmps11
  go_wp2_with fail
  go_loopw [7, 8, 15] (fun u v i wr => u = .int .i64 7 ∧ v = .int .i64 (-1) ∧ i = .int .i64 0 ∧ Below w.heap.size w wr) (fun _ _ _ _ => 0)
  case atStart => exact ⟨rfl, rfl, rfl, (Below.refl _ w).alloc (Nat.le_refl _) _⟩
  case round =>
    obtain ⟨rfl, rfl, rfl, hB⟩ := hrel
    go_wp2
    go_ret
    exact ⟨rfl, hB⟩

set_option maxRecDepth 100000 in
set_option maxHeartbeats 2000000 in
theorem rRoute_none (C : Array Value) (A : Option Addr) (cap : Nat) (host proto : ByteArray) (hC : C[27]? = some (.slice A 0 cap)) (w : World) :
    Calls Tryz.prog 12 #[.agg C, .string host, .string proto] w fun e w' => e = .returned (.int .i64 (-1)) ∧ Below w.heap.size w w' := by
  have hB0 : Blk (w.alloc (.cells C 49)) w.heap.size C 49 := Blk.new _ _ _
  go_enter Tryz.func12, Tryz.ntmps12
  go_wp2_with fail
  go_loopw [7] (fun u wr => ∃ (v : Nat), 1 ≤ v ∧ v ≤ 7 ∧ u = .int .i64 v ∧ Below w.heap.size w wr ∧ Blk wr w.heap.size C 49) (fun u _ => 7 - (intOf u).toNat)
  case atStart => exact ⟨1, by omega, by omega, rfl, (Below.refl _ w).alloc (Nat.le_refl _) _, hB0⟩
  case round =>
    obtain ⟨v, hv1, hv7, rfl, hB, hE⟩ := hrel
    by_cases hv6 : v ≤ 6
    · have d6 : decide ((v : Int) ≤ 6) = true := by simp; omega
      go_wp2_with fail
      obtain ⟨wo, hwo⟩ : ∃ wo : World, wo = wr := ⟨_, rfl⟩
      rw [← hwo] at hB hE ⊢
      clear hwo
      go_loopw [8] (fun u wr => u = .int .i64 0 ∧ Below w.heap.size w wr ∧ Blk wr w.heap.size C 49) (fun _ _ => 0)
      case atStart => exact ⟨rfl, hB, hE⟩
      case round =>
        obtain ⟨rfl, hB2, hE2⟩ := hrel
        have e27 := hE2.cell 27
        rw [hC] at e27
        go_wp2
        go_roundw
        case rel => exact ⟨v + 1, by omega, by omega, by go_num, hB2, hE2⟩
        case measure => simp [intOf]; omega
    · obtain rfl : v = 7 := by omega
      go_wp2
      go_ret
      exact ⟨rfl, hB⟩
end Go.Proofs.YtjokcflpjpophaaGreatDoor
