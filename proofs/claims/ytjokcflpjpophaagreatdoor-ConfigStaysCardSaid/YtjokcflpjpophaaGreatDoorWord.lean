/- The law's word and many: a line's first word; may such lines stand more than once? Conditions: the text within the reach. -/
import Derived.Test.YtjokcflpjpophaaGreatDoorStays
import Derived.Test.YtjokcflpjpophaaGreatDoorCutL
namespace Go.Proofs.YtjokcflpjpophaaGreatDoor
open Go.RowKit

/-- A line's first word, as a text. -/
def wordT (s : ByteArray) : ByteArray := ⟨(wordL s).toArray⟩
theorem takeWhile_at : ∀ (l : List UInt8) (k : Nat), (∀ j, j < k → ¬ l.getD j 0 = 32) → (k < l.length → l.getD k 0 = 32) → k ≤ l.length → l.takeWhile (· != 32) = l.take k
  | [], k, _, _, _ => by simp
  | x :: l, 0, _, h2, _ => by
    have : x = 32 := by simpa using h2 (by simp)
    rw [List.takeWhile_cons, if_neg (by rw [this]; decide)]
    rfl
  | x :: l, k + 1, h1, h2, h3 => by
    have : ¬ x = 32 := by simpa using h1 0 (by omega)
    rw [List.takeWhile_cons, if_pos (by simpa using this), List.take_succ_cons]
    exact congrArg _ (takeWhile_at l k (fun j hj => by simpa using h1 (j + 1) (by omega)) (fun hl => by simpa using h2 (by simpa using hl)) (by simpa using h3))
/-- What the loop keeps. -/
def WordRel (s : ByteArray) (i : Value) : Prop := ∃ k : Nat, i = .int .i64 k ∧ k ≤ s.size ∧ ∀ j, j < k → ¬ s.data.toList.getD j 0 = 32

set_option maxRecDepth 100000 in
theorem word_calls (s : ByteArray) (hs : s.size ≤ 140737488351240) (w : World) : Calls Tryz.prog 9 #[.string s] w fun e w' => e = .returned (.string (wordT s)) ∧ w = w' := by
  go_enter Tryz.func9, Tryz.ntmps9
  go_wp2_with fail
  go_loopw [3] (fun i wr => WordRel s i ∧ wr = w) (fun i _ => s.size - (intOf i).toNat)
  case atStart => exact ⟨⟨0, rfl, Nat.zero_le _, fun j h => absurd h (Nat.not_lt_zero _)⟩, rfl⟩
  case round =>
    obtain ⟨⟨k, rfl, hk, hno⟩, e0⟩ := hrel
    subst e0
    have HN := Lib.hid hno
    clear hno
    have hlen : s.data.toList.length = s.size := by rw [Array.length_toList]; rfl
    by_cases hlt : k < s.size
    · have hgd : s.data.toList.getD k 0 = s[k] := by
        rw [List.getD_eq_getElem?_getD, List.getElem?_eq_getElem (by omega)]
        rfl
      have HG := Lib.hid hgd
      clear hgd
      cases hb : ((s[k].toNat : Int) == 32) with
      | true =>
        have h32 : s[k] = 32 := UInt8.toNat_inj.1 (by have := beq_iff_eq.1 hb; simp; omega)
        have ht : wordT s = s.extract 0 k := by
          unfold wordT wordL
          rw [takeWhile_at _ k HN.out (fun _ => by rw [HG.out]; exact h32) (by omega)]
          apply ByteArray.ext
          apply Array.ext'
          rw [Lib.extract_from_zero]
        have HT := Lib.hid ht
        clear ht hlen
        go_wp2
        go_ret
        exact ⟨by rw [HT.out]; rfl, rfl⟩
      | false =>
        have h32 : ¬ s[k] = 32 := fun e => by rw [e] at hb; exact absurd hb (by decide)
        clear hlen
        go_wp2
        go_roundw
        case rel =>
          refine ⟨⟨k + 1, by simp, by omega, fun j hj => ?_⟩, trivial⟩
          rcases Nat.lt_or_ge j k with h | h
          · exact HN.out j h
          · obtain rfl : j = k := by omega
            rw [HG.out]; exact h32
        case measure => simp [intOf]; omega
    · have ht : wordT s = s := by
        unfold wordT wordL
        rw [takeWhile_at _ k HN.out (fun h => absurd h (by omega)) (by omega), List.take_of_length_le (by omega)]
      have HT := Lib.hid ht
      clear ht hlen
      go_wp2
      go_ret
      exact ⟨by rw [HT.out]; rfl, rfl⟩

theorem many_calls (s : ByteArray) (w : World) : Calls Tryz.prog 10 #[.string s] w fun e w' => (∃ b, e = .returned (.bool b)) ∧ w = w' := by
  go_enter Tryz.func10, Tryz.ntmps10
  go_wp2
  all_goals go_ret
  all_goals exact ⟨⟨_, rfl⟩, rfl⟩
end Go.Proofs.YtjokcflpjpophaaGreatDoor
