/- slices.IndexFunc, ContainsFunc at host lines. Conditions: as in the text on backend lines. -/
import Derived.Test.YtjokcflpjpophaaGreatDoorFindR
namespace Go.Proofs.YtjokcflpjpophaaGreatDoor
open Go.RowKit

/-- A host's line, and the slice value that holds its protocols. -/
abbrev HostV := HostL × Value
def HostAt (w : World) (g : Nat) (bs : List HostV) : Prop := ∀ (i : Nat) (hi : i < bs.length), w.cell? ⟨g, i * 5, none⟩ = some (.string bs[i].1.name) ∧ w.cell? ⟨g, i * 5 + 1, none⟩ = some (.string bs[i].1.cert) ∧ w.cell? ⟨g, i * 5 + 2, none⟩ = some (.string bs[i].1.key) ∧ w.cell? ⟨g, i * 5 + 3, none⟩ = some (.string bs[i].1.staple) ∧ w.cell? ⟨g, i * 5 + 4, none⟩ = some (bs[i].2)
def hostAgg (b : HostV) : Value := .agg #[.string b.1.name, .string b.1.cert, .string b.1.key, .string b.1.staple, b.2]

def FindHRel (w : World) (p : HostV → Bool) (bs : List HostV) (i : Value) (wr : World) : Prop := ∃ k : Nat, i = .int .i64 k ∧ k ≤ bs.length ∧ Below w.heap.size w wr ∧ ∀ j (hj : j < bs.length), j < k → p bs[j] = false

set_option maxRecDepth 100000 in
set_option maxHeartbeats 1000000 in
theorem indexH_calls (A : Option Addr) (cap : Nat) (bs : List HostV) (fn : Nat) (a : Addr) (p : HostV → Bool) (w : World) (hn : bs.length ≤ 1000)
    (hA : 0 < bs.length → ∃ g, A = some ⟨g, 0, none⟩ ∧ g < w.heap.size ∧ HostAt w g bs)
    (he : ∀ args w, (callFunc fn args).run Tryz.prog w = .ok (.enter fn args) w)
    (hp : ∀ W b, Below w.heap.size w W → b ∈ bs → Calls Tryz.prog fn #[hostAgg b, .pointer (some a)] W fun e w' => e = .returned (.bool (p b)) ∧ Below W.heap.size W w') :
    Calls Tryz.prog 112 #[.slice A bs.length cap, .func (.func fn) #[] #[.pointer (some a)]] w fun e w' => e = .returned (.int .i64 (placeP p bs)) ∧ Below w.heap.size w w' := by
  have HA := Lib.hid hA
  have HP := Lib.hid hp
  clear hA hp
  go_enter Tryz.func112, Tryz.ntmps112
  go_wp2_with fail
  go_loopw [8] (fun i wr => FindHRel w p bs i wr) (fun i _ => bs.length - (intOf i).toNat)
  case atStart => exact ⟨0, rfl, Nat.zero_le _, Below.refl _ _, fun j hj h => absurd h (Nat.not_lt_zero _)⟩
  case round =>
    obtain ⟨k, rfl, hk, hB, hno⟩ := hrel
    have HN := Lib.hid hno
    clear hno
    by_cases hlt : k < bs.length
    · obtain ⟨g, rfl, hg, hAt⟩ := HA.out (by omega)
      obtain ⟨c0, c1, c2, c3, c4⟩ := hAt k hlt
      have d0 := (hB.cell (p := ⟨g, k * 5, none⟩) hg).trans c0
      have d1 := (hB.cell (p := ⟨g, k * 5 + 1, none⟩) hg).trans c1
      have d2 := (hB.cell (p := ⟨g, k * 5 + 2, none⟩) hg).trans c2
      have d3 := (hB.cell (p := ⟨g, k * 5 + 3, none⟩) hg).trans c3
      have d4 := (hB.cell (p := ⟨g, k * 5 + 4, none⟩) hg).trans c4
      have hpk := HP.out _ bs[k] hB (List.getElem_mem hlt)
      unfold hostAgg at hpk
      have HK := Lib.hid hpk
      clear c0 c1 c2 c3 c4 hpk hAt
      go_wp2_with fail
      refine HK.out.mono ?_
      rintro e w1 ⟨rfl, B1⟩
      have hB1 := hB.trans (B1.mono hB.size)
      dsimp only
      cases hpb : p bs[k] with
      | true =>
        have hpl := placeP_some p bs k hlt (fun j hj h => HN.out j hj h) hpb
        have HL := Lib.hid hpl
        clear hpl
        go_wp2
        go_ret
        exact ⟨by rw [HL.out]; rfl, hB1⟩
      | false =>
        go_wp2
        go_roundw
        case rel =>
          refine ⟨k + 1, by simp, by omega, hB1, fun j hj h => ?_⟩
          rcases Nat.lt_or_ge j k with h' | h'
          · exact HN.out j hj h'
          · obtain rfl : j = k := by omega
            exact hpb
        case measure => simp [intOf]; omega
    · have hpl := placeP_none p bs (fun j hj => HN.out j hj (by omega))
      have HL := Lib.hid hpl
      clear hpl
      go_wp2
      go_ret
      exact ⟨by rw [HL.out]; rfl, hB⟩

set_option maxRecDepth 100000 in
theorem containsH_calls (A : Option Addr) (cap : Nat) (bs : List HostV) (fn : Nat) (a : Addr) (p : HostV → Bool) (w : World) (hn : bs.length ≤ 1000)
    (hA : 0 < bs.length → ∃ g, A = some ⟨g, 0, none⟩ ∧ g < w.heap.size ∧ HostAt w g bs)
    (he : ∀ args w, (callFunc fn args).run Tryz.prog w = .ok (.enter fn args) w)
    (hp : ∀ W b, Below w.heap.size w W → b ∈ bs → Calls Tryz.prog fn #[hostAgg b, .pointer (some a)] W fun e w' => e = .returned (.bool (p b)) ∧ Below W.heap.size W w') :
    Calls Tryz.prog 89 #[.slice A bs.length cap, .func (.func fn) #[] #[.pointer (some a)]] w fun e w' => e = .returned (.bool (bs.any p)) ∧ Below w.heap.size w w' := by
  have HI := Lib.hid (indexH_calls A cap bs fn a p w hn hA he hp)
  have ha := placeP_any p bs
  have HQ := Lib.hid ha
  clear hA hp ha
  go_enter Tryz.func89, Tryz.ntmps89
  go_wp2_with fail
  refine HI.out.mono ?_
  rintro e w1 ⟨rfl, B1⟩
  dsimp only
  go_wp2
  go_ret
  exact ⟨by rw [← HQ.out]; rfl, B1⟩
end Go.Proofs.YtjokcflpjpophaaGreatDoor
