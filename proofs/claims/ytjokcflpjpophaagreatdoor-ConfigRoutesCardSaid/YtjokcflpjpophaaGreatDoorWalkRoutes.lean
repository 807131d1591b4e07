/- The walk of the law ConfigRoutes: whatever config.Route answers, so long as its plain twin answers the same. Conditions: bytealg.MaxLen is a number. -/
import Derived.Test.YtjokcflpjpophaaGreatDoorRouteNil
import Derived.Test.YtjokcflpjpophaaGreatDoorHead
namespace Go.Proofs.YtjokcflpjpophaaGreatDoor
open Go.RowKit

set_option maxRecDepth 100000 in
set_option maxHeartbeats 2000000 in
theorem walk_routes (m : Int) (A : Option Addr) (len cap : Nat) (host proto : ByteArray) (R : Int) (w : World) (h2 : 2 < w.heap.size) (hm : w.cell? ⟨2, 0, none⟩ = some (.int .i64 m))
    (ha : ∀ (C : Array Value) (w1 : World), C[27]? = some (.slice A len cap) → Below w.heap.size w w1 → Calls Tryz.prog 11 #[.agg C, .string host, .string proto] w1 fun e w' => e = .returned (.int .i64 R) ∧ Below w1.heap.size w1 w')
    (hb : ∀ (C : Array Value) (w1 : World), C[27]? = some (.slice A len cap) → Below w.heap.size w w1 → Calls Tryz.prog 12 #[.agg C, .string host, .string proto] w1 fun e w' => e = .returned (.int .i64 R) ∧ Below w1.heap.size w1 w') :
    Calls Tryz.prog 4 #[.slice A len cap, .string host, .string proto] w fun e w' => e = .returned (.bool true) ∧ Below w.heap.size w w' := by
  have HA := Lib.hid ha
  have HB := Lib.hid hb
  clear ha hb
  go_enter Tryz.func4, Tryz.ntmps4
  go_wp2_with (first
    | (go_at_call 6; refine (head_calls m w h2 hm).mono ?_; rintro e w1 ⟨rfl, B1⟩)
    | (go_at_call 11; refine (HA.out _ _ rfl B1).mono ?_; rintro e w2 ⟨rfl, B2⟩; have B12 := B1.trans (B2.mono B1.size))
    | (go_at_call 12; refine (HB.out _ _ rfl B12).mono ?_; rintro e w3 ⟨rfl, B3⟩))
  go_ret
  exact ⟨rfl, B12.trans (B3.mono B12.size)⟩
end Go.Proofs.YtjokcflpjpophaaGreatDoor
