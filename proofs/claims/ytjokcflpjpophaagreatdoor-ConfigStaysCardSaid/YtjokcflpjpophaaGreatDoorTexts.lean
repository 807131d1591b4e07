/- The document's sameTexts: true at equal lists. Conditions: the lists' cells are there. -/
import Derived.Test.YtjokcflpjpophaaGreatDoorWord
import Derived.Test.YtjokcflpjpophaaGreatDoorFits
namespace Go.Proofs.YtjokcflpjpophaaGreatDoor
open Go.RowKit
attribute [local go_sem ↓] Go.wp_at_zero Go.wp_at_succ

/-- A slice of texts lies in memory. -/
def TextsAt (w : World) (A : Option Addr) (xs : List ByteArray) : Prop := 0 < xs.length → ∃ g, A = some ⟨g, 0, none⟩ ∧ g < w.heap.size ∧ ∀ (i : Nat) (hi : i < xs.length), w.cell? ⟨g, i, none⟩ = some (.string xs[i])
theorem TextsAt.below {w w' : World} {A : Option Addr} {xs : List ByteArray} (h : TextsAt w A xs) (hb : Below w.heap.size w w') : TextsAt w' A xs := fun hp => by
  obtain ⟨g, e, hg, hc⟩ := h hp
  exact ⟨g, e, Nat.lt_of_lt_of_le hg hb.size, fun i hi => (hb.cell (p := ⟨g, i, none⟩) hg).trans (hc i hi)⟩
/-- A comparison's answer: true where both are alike. -/
def SameR {α : Type} (x y : α) (w w' : World) (e : Ending) : Prop := ∃ b : Bool, e = .returned (.bool b) ∧ (x = y → b = true) ∧ Below w.heap.size w w'
def TextRel (w : World) (n : Nat) (i : Value) (wr : World) : Prop := ∃ k : Nat, i = .int .i64 k ∧ k ≤ n ∧ Below w.heap.size w wr

set_option maxRecDepth 100000 in
set_option maxHeartbeats 1000000 in
theorem sameTexts_calls (A1 A2 : Option Addr) (c1 c2 : Nat) (xs ys : List ByteArray) (w : World) (h1 : TextsAt w A1 xs) (h2 : TextsAt w A2 ys) (hn : xs.length ≤ 9223372036854775807) :
    Calls Tryz.prog 20 #[.slice A1 xs.length c1, .slice A2 ys.length c2] w fun e w' => SameR xs ys w w' e := by
  have H := Lib.hid (And.intro h1 h2)
  clear h1 h2
  by_cases hl : xs.length = ys.length
  · have HL := Lib.hid hl
    rw [← hl]
    clear hl
    go_enter Tryz.func20, Tryz.ntmps20
    go_wp2_with fail
    go_loopw [5] (fun i wr => TextRel w xs.length i wr) (fun i _ => xs.length - (intOf i).toNat)
    case atStart => exact ⟨0, rfl, Nat.zero_le _, Below.refl _ _⟩
    case round =>
      obtain ⟨k, rfl, hk, hB⟩ := hrel
      by_cases hlt : k < xs.length
      · obtain ⟨g1, rfl, hg1, hc1⟩ := H.out.1 (by omega)
        obtain ⟨g2, rfl, hg2, hc2⟩ := H.out.2 (by rw [← HL.out]; omega)
        have hlt2 : k < ys.length := by rw [← HL.out]; exact hlt
        have d1 := (hB.cell (p := ⟨g1, k, none⟩) hg1).trans (hc1 k hlt)
        have d2 := (hB.cell (p := ⟨g2, k, none⟩) hg2).trans (hc2 k hlt2)
        clear hc1 hc2
        obtain ⟨x, hx⟩ : ∃ x, xs[k] = x := ⟨_, rfl⟩
        obtain ⟨y, hy⟩ : ∃ y, ys[k] = y := ⟨_, rfl⟩
        rw [hx] at d1
        rw [hy] at d2
        have HX := Lib.hid (And.intro hx hy)
        clear hx hy
        go_wp2_with fail
        go_region_held3 (fun w' => w'.cell? ⟨g1, k, none⟩ = some (.string x) ∧ w'.cell? ⟨g2, k, none⟩ = some (.string y)) (go_keep) (fail)
        cases hb : (x.toList == y.toList) with
        | true =>
          go_wp2
          go_roundw
          case rel => exact ⟨k + 1, by simp, by omega, hB.drew⟩
          case measure => simp [intOf]; omega
        | false =>
          go_wp2
          go_ret
          refine ⟨false, rfl, fun e => ?_, hB.drew⟩
          subst e
          rw [← HX.out.1, ← HX.out.2] at hb
          simp at hb
      · go_wp2
        go_ret
        exact ⟨true, rfl, fun _ => rfl, hB⟩
  · have hb : ((xs.length : Int) == (ys.length : Int)) = false := by simpa using fun e : (xs.length : Int) = ys.length => hl (by omega)
    have HL := Lib.hid hl
    clear hl
    go_enter Tryz.func20, Tryz.ntmps20
    go_wp2
    go_ret
    exact ⟨false, rfl, fun e => absurd (by rw [e]) HL.out, Below.refl _ _⟩
end Go.Proofs.YtjokcflpjpophaaGreatDoor
