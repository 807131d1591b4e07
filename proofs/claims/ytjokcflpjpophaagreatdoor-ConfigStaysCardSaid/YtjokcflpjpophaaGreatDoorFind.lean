/- slices.IndexFunc, ContainsFunc at the three lists of a configuration, for any predicate whose function keeps what was there. Conditions: the list's cells are there; the function value's contract. -/
import Derived.Test.YtjokcflpjpophaaGreatDoorClients
namespace Go.Proofs.YtjokcflpjpophaaGreatDoor
open Go.RowKit

def BackAt (w : World) (g : Nat) (bs : List BackL) : Prop := ∀ (i : Nat) (hi : i < bs.length), w.cell? ⟨g, i * 4, none⟩ = some (.string bs[i].name) ∧ w.cell? ⟨g, i * 4 + 1, none⟩ = some (.int .i64 bs[i].addr) ∧ w.cell? ⟨g, i * 4 + 2, none⟩ = some (.string bs[i].host) ∧ w.cell? ⟨g, i * 4 + 3, none⟩ = some (.string bs[i].roots)
def backAgg (b : BackL) : Value := .agg #[.string b.name, .int .i64 b.addr, .string b.host, .string b.roots]
/-- The first place that a predicate holds at; -1: there is none. -/
def placeP {α : Type} (p : α → Bool) : List α → Int
  | [] => -1
  | x :: l => if p x = true then 0 else if placeP p l = -1 then -1 else placeP p l + 1
theorem placeP_ge {α : Type} (p : α → Bool) : ∀ l : List α, -1 ≤ placeP p l
  | [] => Int.le_refl _
  | x :: l => by
    have := placeP_ge p l
    unfold placeP
    split
    · omega
    · split <;> omega
theorem placeP_none {α : Type} (p : α → Bool) : ∀ l : List α, (∀ j (hj : j < l.length), p l[j] = false) → placeP p l = -1
  | [], _ => rfl
  | x :: l, h => by
    have h0 := h 0 (by simp)
    have ih := placeP_none p l (fun j hj => h (j + 1) (by simpa using hj))
    unfold placeP
    rw [if_neg (by rw [show p x = false from h0]; decide), if_pos ih]
theorem placeP_some {α : Type} (p : α → Bool) : ∀ (l : List α) (k : Nat) (hk : k < l.length), (∀ j (hj : j < l.length), j < k → p l[j] = false) → p l[k] = true → placeP p l = k
  | x :: l, 0, hk, _, h => by
    unfold placeP
    rw [if_pos (by simpa using h)]
    rfl
  | x :: l, k + 1, hk, h1, h2 => by
    have h0 := h1 0 (by simp) (by omega)
    have ih := placeP_some p l k (by simpa using hk) (fun j hj hjk => h1 (j + 1) (by simpa using hj) (by omega)) (by simpa using h2)
    unfold placeP
    rw [if_neg (by rw [show p x = false from h0]; decide), if_neg (by omega), ih]
    rfl
theorem placeP_any {α : Type} (p : α → Bool) : ∀ l : List α, decide (0 ≤ placeP p l) = l.any p
  | [] => rfl
  | x :: l => by
    have ih := placeP_any p l
    have hge := placeP_ge p l
    unfold placeP
    rw [List.any_cons]
    by_cases hx : p x = true
    · rw [if_pos hx, hx]; rfl
    · rw [if_neg hx, ← ih]
      have hf : p x = false := by simpa using hx
      rw [hf, Bool.false_or]
      apply decide_eq_decide.2
      split <;> omega

def BRel (w : World) (p : BackL → Bool) (bs : List BackL) (i : Value) (wr : World) : Prop := ∃ k : Nat, i = .int .i64 k ∧ k ≤ bs.length ∧ Below w.heap.size w wr ∧ ∀ j (hj : j < bs.length), j < k → p bs[j] = false

set_option maxRecDepth 100000 in
set_option maxHeartbeats 1000000 in
theorem indexB_calls (A : Option Addr) (cap : Nat) (bs : List BackL) (fn : Nat) (a : Addr) (p : BackL → Bool) (w : World) (hn : bs.length ≤ 1000)
    (hA : 0 < bs.length → ∃ g, A = some ⟨g, 0, none⟩ ∧ g < w.heap.size ∧ BackAt w g bs)
    (he : ∀ args w, (callFunc fn args).run Tryz.prog w = .ok (.enter fn args) w)
    (hp : ∀ W b, Below w.heap.size w W → b ∈ bs → Calls Tryz.prog fn #[backAgg b, .pointer (some a)] W fun e w' => e = .returned (.bool (p b)) ∧ Below W.heap.size W w') :
    Calls Tryz.prog 48 #[.slice A bs.length cap, .func (.func fn) #[] #[.pointer (some a)]] w fun e w' => e = .returned (.int .i64 (placeP p bs)) ∧ Below w.heap.size w w' := by
  have HA := Lib.hid hA
  have HP := Lib.hid hp
  clear hA hp
  go_enter Tryz.func48, Tryz.ntmps48
  go_wp2_with fail
  go_loopw [8] (fun i wr => BRel w p bs i wr) (fun i _ => bs.length - (intOf i).toNat)
  case atStart => exact ⟨0, rfl, Nat.zero_le _, Below.refl _ _, fun j hj h => absurd h (Nat.not_lt_zero _)⟩
  case round =>
    obtain ⟨k, rfl, hk, hB, hno⟩ := hrel
    have HN := Lib.hid hno
    clear hno
    by_cases hlt : k < bs.length
    · obtain ⟨g, rfl, hg, hAt⟩ := HA.out (by omega)
      obtain ⟨c0, c1, c2, c3⟩ := hAt k hlt
      have d0 := (hB.cell (p := ⟨g, k * 4, none⟩) hg).trans c0
      have d1 := (hB.cell (p := ⟨g, k * 4 + 1, none⟩) hg).trans c1
      have d2 := (hB.cell (p := ⟨g, k * 4 + 2, none⟩) hg).trans c2
      have d3 := (hB.cell (p := ⟨g, k * 4 + 3, none⟩) hg).trans c3
      have hpk := HP.out _ bs[k] hB (List.getElem_mem hlt)
      unfold backAgg at hpk
      have HK := Lib.hid hpk
      clear c0 c1 c2 c3 hpk hAt
      go_wp2_with fail
      refine HK.out.mono ?_
      rintro e w1 ⟨rfl, B1⟩
      have hB1 := hB.trans (B1.mono hB.size)
      dsimp only
      cases hpb : p bs[k] with
      | true =>
        have hpl := placeP_some p bs k hlt (fun j hj h => HN.out j hj h) hpb
        have HL := Lib.hid hpl
        clear hpl
        go_wp2
        go_ret
        exact ⟨by rw [HL.out]; rfl, hB1⟩
      | false =>
        go_wp2
        go_roundw
        case rel =>
          refine ⟨k + 1, by simp, by omega, hB1, fun j hj h => ?_⟩
          rcases Nat.lt_or_ge j k with h' | h'
          · exact HN.out j hj h'
          · obtain rfl : j = k := by omega
            exact hpb
        case measure => simp [intOf]; omega
    · have hpl := placeP_none p bs (fun j hj => HN.out j hj (by omega))
      have HL := Lib.hid hpl
      clear hpl
      go_wp2
      go_ret
      exact ⟨by rw [HL.out]; rfl, hB⟩

set_option maxRecDepth 100000 in
theorem containsB_calls (A : Option Addr) (cap : Nat) (bs : List BackL) (fn : Nat) (a : Addr) (p : BackL → Bool) (w : World) (hn : bs.length ≤ 1000)
    (hA : 0 < bs.length → ∃ g, A = some ⟨g, 0, none⟩ ∧ g < w.heap.size ∧ BackAt w g bs)
    (he : ∀ args w, (callFunc fn args).run Tryz.prog w = .ok (.enter fn args) w)
    (hp : ∀ W b, Below w.heap.size w W → b ∈ bs → Calls Tryz.prog fn #[backAgg b, .pointer (some a)] W fun e w' => e = .returned (.bool (p b)) ∧ Below W.heap.size W w') :
    Calls Tryz.prog 90 #[.slice A bs.length cap, .func (.func fn) #[] #[.pointer (some a)]] w fun e w' => e = .returned (.bool (bs.any p)) ∧ Below w.heap.size w w' := by
  have HI := Lib.hid (indexB_calls A cap bs fn a p w hn hA he hp)
  have ha := placeP_any p bs
  have HQ := Lib.hid ha
  clear hA hp ha
  go_enter Tryz.func90, Tryz.ntmps90
  go_wp2_with fail
  refine HI.out.mono ?_
  rintro e w1 ⟨rfl, B1⟩
  dsimp only
  go_wp2
  go_ret
  exact ⟨by rw [← HQ.out]; rfl, B1⟩
end Go.Proofs.YtjokcflpjpophaaGreatDoor
