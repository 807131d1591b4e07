/- Have words the shape that a line asks? config.words$1, lines$8, hostly. Conditions: the words' cells are there. -/
import Derived.Test.YtjokcflpjpophaaGreatDoorRouteL
namespace Go.Proofs.YtjokcflpjpophaaGreatDoor
open Go.RowKit

theorem words1_calls (n : Nat) (q : Nat) (n0 : Int) (A : Option Addr) (cap : Nat) (w : World) (hq : w.cell? ⟨q, 0, none⟩ = some (.int .i64 n0)) :
    Calls Tryz.prog 57 #[.slice A n cap, .pointer (some ⟨q, 0, none⟩)] w fun e w' => e = .returned (.bool (decide ((n : Int) = n0))) ∧ w = w' := by
  have hd : ((n : Int) == n0) = decide ((n : Int) = n0) := by rw [Bool.eq_iff_iff, beq_iff_eq, decide_eq_true_iff]
  rw [← hd]
  go_enter Tryz.func57, Tryz.ntmps57
  go_wp2
  go_ret
  exact ⟨rfl, rfl⟩

/-- The words lie in a row. -/
def WordsIn (w : World) (ww : Nat) (xs : List ByteArray) : Prop := ∀ (i : Nat) x, xs[i]? = some x → w.cell? ⟨ww, i, none⟩ = some (.string x)
theorem wd_at {xs : List ByteArray} {i : Nat} (h : i < xs.length) : xs[i]? = some (wd xs i) := by
  unfold wd
  rw [List.getD_eq_getElem?_getD, List.getElem?_eq_getElem h]
  rfl

set_option maxRecDepth 100000 in
theorem fits7_calls (xs : List ByteArray) (ww cap : Nat) (w : World) (hw : WordsIn w ww xs) :
    Calls Tryz.prog 36 #[.slice (some ⟨ww, 0, none⟩) xs.length cap] w fun e w' => e = .returned (.bool (fits 7 xs)) ∧ w = w' := by
  by_cases h3 : xs.length = 3
  · have c2 := hw 2 _ (wd_at (by omega))
    have hf : fits 7 xs = (((wd xs 2).toList == [97, 115, 107]) || ((wd xs 2).toList == [109, 117, 115, 116])) := by
      show (decide (xs.length = 3) && _) = _
      rw [decide_eq_true h3, Bool.true_and]
      rw [← list_is _ #[97, 115, 107], ← list_is _ #[109, 117, 115, 116]]
    have HF := Lib.hid hf
    clear hf hw
    rw [h3]
    go_enter Tryz.func36, Tryz.ntmps36
    cases hb : ((wd xs 2).toList == [97, 115, 107]) with
    | true =>
      go_wp2
      go_ret
      exact ⟨by rw [HF.out, hb, Bool.true_or]; rfl, rfl⟩
    | false =>
      go_wp2
      go_ret
      exact ⟨by rw [HF.out, hb, Bool.false_or]; rfl, rfl⟩
  · have hf : fits 7 xs = false := by
      show (decide (xs.length = 3) && _) = _
      rw [decide_eq_false h3, Bool.false_and]
    have HF := Lib.hid hf
    have hn : ((xs.length : Int) == 3) = false := by simpa using fun e : (xs.length : Int) = 3 => h3 (by omega)
    clear hf hw
    go_enter Tryz.func36, Tryz.ntmps36
    go_wp2
    go_ret
    exact ⟨by rw [HF.out]; rfl, rfl⟩

set_option maxRecDepth 100000 in
theorem fits8_calls (xs : List ByteArray) (ww cap : Nat) (w : World) (hw : WordsIn w ww xs) :
    Calls Tryz.prog 38 #[.slice (some ⟨ww, 0, none⟩) xs.length cap] w fun e w' => e = .returned (.bool (fits 8 xs)) ∧ w = w' := by
  have hs : ∀ x : ByteArray, stapleB x = (x.toList == [115, 116, 97, 112, 108, 101]) := fun x => (list_is x #[115, 116, 97, 112, 108, 101]).symm
  have ha : ∀ x : ByteArray, alpnB x = (x.toList == [97, 108, 112, 110]) := fun x => (list_is x #[97, 108, 112, 110]).symm
  have hf : fits 8 xs = (decide (xs.length = 4) || (decide (xs.length = 6) && (stapleB (wd xs 4) || alpnB (wd xs 4))) || (decide (xs.length = 8) && (stapleB (wd xs 4) && alpnB (wd xs 6)))) := rfl
  by_cases h4 : xs.length = 4
  · rw [h4] at hf
    have HF := Lib.hid (hf.trans (show _ = true from rfl))
    clear hf hs ha hw
    rw [h4]
    go_enter Tryz.func38, Tryz.ntmps38
    go_wp2
    go_ret
    exact ⟨by rw [HF.out]; rfl, rfl⟩
  · by_cases h6 : xs.length = 6
    · have c4 := hw 4 _ (wd_at (by omega))
      rw [h6] at hf
      have hf2 : fits 8 xs = (((wd xs 4).toList == [115, 116, 97, 112, 108, 101]) || ((wd xs 4).toList == [97, 108, 112, 110])) := by
        rw [hf, ← hs, ← ha]
        simp
      have HF := Lib.hid hf2
      clear hf hf2 hs ha hw
      rw [h6]
      go_enter Tryz.func38, Tryz.ntmps38
      cases hb : ((wd xs 4).toList == [115, 116, 97, 112, 108, 101]) with
      | true =>
        go_wp2
        go_ret
        exact ⟨by rw [HF.out, hb, Bool.true_or]; rfl, rfl⟩
      | false =>
        go_wp2
        go_ret
        exact ⟨by rw [HF.out, hb, Bool.false_or]; rfl, rfl⟩
    · by_cases hl8 : xs.length = 8
      · have c4 := hw 4 _ (wd_at (by omega))
        have c6 := hw 6 _ (wd_at (by omega))
        rw [hl8] at hf
        have hf2 : fits 8 xs = (((wd xs 4).toList == [115, 116, 97, 112, 108, 101]) && ((wd xs 6).toList == [97, 108, 112, 110])) := by
          rw [hf, ← hs, ← ha]
          simp
        have HF := Lib.hid hf2
        clear hf hf2 hs ha hw
        rw [hl8]
        go_enter Tryz.func38, Tryz.ntmps38
        cases hb : ((wd xs 4).toList == [115, 116, 97, 112, 108, 101]) with
        | true =>
          go_wp2
          go_ret
          exact ⟨by rw [HF.out, hb, Bool.true_and]; rfl, rfl⟩
        | false =>
          go_wp2
          go_ret
          exact ⟨by rw [HF.out, hb, Bool.false_and]; rfl, rfl⟩
      · rw [decide_eq_false h4, decide_eq_false h6, decide_eq_false hl8] at hf
        have HF := Lib.hid (hf.trans (show _ = false from rfl))
        have n4 : ((xs.length : Int) == 4) = false := by simpa using fun e : (xs.length : Int) = 4 => h4 (by omega)
        have n6 : ((xs.length : Int) == 6) = false := by simpa using fun e : (xs.length : Int) = 6 => h6 (by omega)
        have n8 : ((xs.length : Int) == 8) = false := by simpa using fun e : (xs.length : Int) = 8 => hl8 (by omega)
        clear hf hs ha hw
        go_enter Tryz.func38, Tryz.ntmps38
        go_wp2
        go_ret
        exact ⟨by rw [HF.out]; rfl, rfl⟩
end Go.Proofs.YtjokcflpjpophaaGreatDoor
