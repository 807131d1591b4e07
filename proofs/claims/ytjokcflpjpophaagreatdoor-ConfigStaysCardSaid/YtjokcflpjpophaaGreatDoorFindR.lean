/- slices.IndexFunc, ContainsFunc at route lines. Conditions: as in the text on backend lines. -/
import Derived.Test.YtjokcflpjpophaaGreatDoorFind
namespace Go.Proofs.YtjokcflpjpophaaGreatDoor
open Go.RowKit

def RouteAt (w : World) (g : Nat) (bs : List RouteL) : Prop := ∀ (i : Nat) (hi : i < bs.length), w.cell? ⟨g, i * 3, none⟩ = some (.string bs[i].host) ∧ w.cell? ⟨g, i * 3 + 1, none⟩ = some (.string bs[i].proto) ∧ w.cell? ⟨g, i * 3 + 2, none⟩ = some (.string bs[i].backend)
def routeAgg (b : RouteL) : Value := .agg #[.string b.host, .string b.proto, .string b.backend]

def FindRRel (w : World) (p : RouteL → Bool) (bs : List RouteL) (i : Value) (wr : World) : Prop := ∃ k : Nat, i = .int .i64 k ∧ k ≤ bs.length ∧ Below w.heap.size w wr ∧ ∀ j (hj : j < bs.length), j < k → p bs[j] = false

set_option maxRecDepth 100000 in
set_option maxHeartbeats 1000000 in
theorem indexR_calls (A : Option Addr) (cap : Nat) (bs : List RouteL) (fn : Nat) (a : Addr) (p : RouteL → Bool) (w : World) (hn : bs.length ≤ 1000)
    (hA : 0 < bs.length → ∃ g, A = some ⟨g, 0, none⟩ ∧ g < w.heap.size ∧ RouteAt w g bs)
    (he : ∀ args w, (callFunc fn args).run Tryz.prog w = .ok (.enter fn args) w)
    (hp : ∀ W b, Below w.heap.size w W → b ∈ bs → Calls Tryz.prog fn #[routeAgg b, .pointer (some a)] W fun e w' => e = .returned (.bool (p b)) ∧ Below W.heap.size W w') :
    Calls Tryz.prog 47 #[.slice A bs.length cap, .func (.func fn) #[] #[.pointer (some a)]] w fun e w' => e = .returned (.int .i64 (placeP p bs)) ∧ Below w.heap.size w w' := by
  have HA := Lib.hid hA
  have HP := Lib.hid hp
  clear hA hp
  go_enter Tryz.func47, Tryz.ntmps47
  go_wp2_with fail
  go_loopw [8] (fun i wr => FindRRel w p bs i wr) (fun i _ => bs.length - (intOf i).toNat)
  case atStart => exact ⟨0, rfl, Nat.zero_le _, Below.refl _ _, fun j hj h => absurd h (Nat.not_lt_zero _)⟩
  case round =>
    obtain ⟨k, rfl, hk, hB, hno⟩ := hrel
    have HN := Lib.hid hno
    clear hno
    by_cases hlt : k < bs.length
    · obtain ⟨g, rfl, hg, hAt⟩ := HA.out (by omega)
      obtain ⟨c0, c1, c2⟩ := hAt k hlt
      have d0 := (hB.cell (p := ⟨g, k * 3, none⟩) hg).trans c0
      have d1 := (hB.cell (p := ⟨g, k * 3 + 1, none⟩) hg).trans c1
      have d2 := (hB.cell (p := ⟨g, k * 3 + 2, none⟩) hg).trans c2
      have hpk := HP.out _ bs[k] hB (List.getElem_mem hlt)
      unfold routeAgg at hpk
      have HK := Lib.hid hpk
      clear c0 c1 c2 hpk hAt
      go_wp2_with fail
      refine HK.out.mono ?_
      rintro e w1 ⟨rfl, B1⟩
      have hB1 := hB.trans (B1.mono hB.size)
      dsimp only
      cases hpb : p bs[k] with
      | true =>
        have hpl := placeP_some p bs k hlt (fun j hj h => HN.out j hj h) hpb
        have HL := Lib.hid hpl
        clear hpl
        go_wp2
        go_ret
        exact ⟨by rw [HL.out]; rfl, hB1⟩
      | false =>
        go_wp2
        go_roundw
        case rel =>
          refine ⟨k + 1, by simp, by omega, hB1, fun j hj h => ?_⟩
          rcases Nat.lt_or_ge j k with h' | h'
          · exact HN.out j hj h'
          · obtain rfl : j = k := by omega
            exact hpb
        case measure => simp [intOf]; omega
    · have hpl := placeP_none p bs (fun j hj => HN.out j hj (by omega))
      have HL := Lib.hid hpl
      clear hpl
      go_wp2
      go_ret
      exact ⟨by rw [HL.out]; rfl, hB⟩

set_option maxRecDepth 100000 in
theorem containsR_calls (A : Option Addr) (cap : Nat) (bs : List RouteL) (fn : Nat) (a : Addr) (p : RouteL → Bool) (w : World) (hn : bs.length ≤ 1000)
    (hA : 0 < bs.length → ∃ g, A = some ⟨g, 0, none⟩ ∧ g < w.heap.size ∧ RouteAt w g bs)
    (he : ∀ args w, (callFunc fn args).run Tryz.prog w = .ok (.enter fn args) w)
    (hp : ∀ W b, Below w.heap.size w W → b ∈ bs → Calls Tryz.prog fn #[routeAgg b, .pointer (some a)] W fun e w' => e = .returned (.bool (p b)) ∧ Below W.heap.size W w') :
    Calls Tryz.prog 17 #[.slice A bs.length cap, .func (.func fn) #[] #[.pointer (some a)]] w fun e w' => e = .returned (.bool (bs.any p)) ∧ Below w.heap.size w w' := by
  have HI := Lib.hid (indexR_calls A cap bs fn a p w hn hA he hp)
  have ha := placeP_any p bs
  have HQ := Lib.hid ha
  clear hA hp ha
  go_enter Tryz.func17, Tryz.ntmps17
  go_wp2_with fail
  refine HI.out.mono ?_
  rintro e w1 ⟨rfl, B1⟩
  dsimp only
  go_wp2
  go_ret
  exact ⟨by rw [← HQ.out]; rfl, B1⟩
end Go.Proofs.YtjokcflpjpophaaGreatDoor
