/- chain.Matches and the document's Matches: the same answer, at every pattern and every host that fit the form's reach. -/
import Derived.Test.YtjokcflpjpophaaGreatDoorRef16
import Derived.Deep.RegionWith
import Derived.Deep.QuietTactic
import Derived.BigQuiet
namespace Go.Proofs.YtjokcflpjpophaaGreatDoor
open Go.RowKit

/-- What stands behind the first byte c; nothing, if there is none. -/
def behind (c : UInt8) : List UInt8 → List UInt8
  | [] => []
  | x :: l => if x == c then l else behind c l
theorem behind_hit (c : UInt8) (l : List UInt8) (i : Nat) (h : Lib.indexByte l c = i) : behind c l = l.drop (i + 1) := by
  induction l generalizing i with
  | nil => simp [Lib.indexByte] at h
  | cons x l ih =>
    unfold Lib.indexByte at h
    unfold behind
    split at h
    · rename_i hx
      obtain rfl : i = 0 := by omega
      rw [if_pos hx]; rfl
    · rename_i hx
      rw [if_neg hx]
      rcases indexByte_range l c with h' | ⟨j, h', _⟩
      · rw [h', if_pos (by simp)] at h; omega
      · rw [h', if_neg (by simp)] at h
        obtain rfl : i = j + 1 := by omega
        exact ih j h'
theorem behind_miss (c : UInt8) (l : List UInt8) (h : Lib.indexByte l c = -1) : behind c l = [] := by
  induction l with
  | nil => rfl
  | cons x l ih =>
    unfold Lib.indexByte at h
    unfold behind
    split at h
    · simp at h
    · rename_i hx
      rw [if_neg hx]
      rcases indexByte_range l c with h' | ⟨j, h', _⟩
      · exact ih h'
      · rw [h', if_neg (by simp)] at h; omega

set_option maxRecDepth 100000 in
theorem cut_inner (s : ByteArray) (hs : s.size ≤ 140737488351240) (c : UInt8) (w : World) :
    Calls Tryz.prog 76 #[.string s, .string ⟨#[c]⟩] w fun e w' => (∃ (a b : ByteArray) (f : Bool), e = .returned (.tuple #[.string a, .string b, .bool f]) ∧ b.data.toList = behind c s.data.toList) ∧ Below w.heap.size w w' := by
  rcases indexByte_range s.data.toList c with hm | ⟨i, hi, hil⟩
  · have hmm : (Lib.indexByte s.data.toList c < 0) := by omega
    have HB := Lib.hid (behind_miss c _ hm)
    clear hm
    go_enter Tryz.func76, Tryz.ntmps76
    go_wp2_with (go_at_call 92; refine (index_inner _ _ _).mono ?_; rintro e w' ⟨rfl, rfl⟩)
    go_ret3
    exact ⟨⟨s, ⟨#[]⟩, false, rfl, by rw [HB.out]⟩, Below.refl _ _⟩
  · have his : i < s.size := by rw [Lib.size_eq]; exact hil
    have HB := Lib.hid (behind_hit c _ i hi)
    have HI := Lib.hid hi
    have hidx : ∀ w, Calls Tryz.prog 92 #[.string s, .string ⟨#[c]⟩] w fun e w' => e = .returned (.int .i64 (i : Int)) ∧ w = w' := fun w => by
      have := index_inner s c w
      rw [HI.out] at this
      exact this
    have HX := Lib.hid hidx
    clear hi hil hidx
    go_enter Tryz.func76, Tryz.ntmps76
    go_wp2_with (go_at_call 92; refine (HX.out _).mono ?_; rintro e w' ⟨rfl, rfl⟩)
    go_region
    all_goals go_wp2
    all_goals go_ret3
    all_goals exact ⟨⟨_, _, _, rfl, by rw [HB.out, Lib.extract_to_end]⟩, (Below.refl _ _).drew⟩

theorem Cut_calls (s : ByteArray) (hs : s.size ≤ 140737488351240) (c : UInt8) (w : World) :
    Calls Tryz.prog 51 #[.string s, .string ⟨#[c]⟩] w fun e w' => (∃ (a b : ByteArray) (f : Bool), e = .returned (.tuple #[.string a, .string b, .bool f]) ∧ b.data.toList = behind c s.data.toList) ∧ Below w.heap.size w w' := by
  go_enter Tryz.func51, Tryz.ntmps51
  go_wp2_with (go_at_call 76; refine (cut_inner s hs c _).mono ?_; rintro e w' ⟨⟨a, b, f, rfl, hb⟩, hB⟩)
  go_ret3
  exact ⟨⟨a, b, f, rfl, hb⟩, hB⟩

/-- May a host be called so; does a pattern match it? -/
def matchesP (p n : List UInt8) : Bool :=
  decide (0 < counted n) && (if Lib.hasPrefix p [42, 46] = true then decide (2 ≤ counted (p.drop 2)) && ((p.drop 2).map low == (behind 46 n).map low) else decide (0 < counted p) && (p.map low == n.map low))

theorem Host_yes (s : ByteArray) (hs : s.size ≤ 140737488351240) (h : 0 < counted s.data.toList) (w : World) : Calls Tryz.prog 22 #[.string s] w fun e w' => e = .returned (.bool true) ∧ Below w.heap.size w w' := by
  have := Host_calls s hs w
  rwa [decide_eq_true h] at this
theorem Host_no (s : ByteArray) (hs : s.size ≤ 140737488351240) (h : ¬ 0 < counted s.data.toList) (w : World) : Calls Tryz.prog 22 #[.string s] w fun e w' => e = .returned (.bool false) ∧ Below w.heap.size w w' := by
  have := Host_calls s hs w
  rwa [decide_eq_false h] at this
theorem cutStar_yes (p : ByteArray) (h : Lib.hasPrefix p.data.toList [42, 46] = true) (w : World) :
    Calls Tryz.prog 50 #[.string p, .string ⟨#[42, 46]⟩] w fun e w' => e = .returned (.tuple #[.string ⟨(p.data.toList.drop 2).toArray⟩, .bool true]) ∧ w' = w := by
  have := Tryz.strings_CutPrefix p ⟨#[42, 46]⟩ w
  rw [show (⟨#[42, 46]⟩ : ByteArray).data.toList = [42, 46] from rfl] at this
  unfold Lib.trimPrefix at this
  rwa [if_pos h, h] at this
theorem cutStar_no (p : ByteArray) (h : ¬ Lib.hasPrefix p.data.toList [42, 46] = true) (w : World) :
    Calls Tryz.prog 50 #[.string p, .string ⟨#[42, 46]⟩] w fun e w' => e = .returned (.tuple #[.string ⟨p.data.toList.toArray⟩, .bool false]) ∧ w' = w := by
  have := Tryz.strings_CutPrefix p ⟨#[42, 46]⟩ w
  rw [show (⟨#[42, 46]⟩ : ByteArray).data.toList = [42, 46] from rfl] at this
  unfold Lib.trimPrefix at this
  rw [if_neg h] at this
  cases hb : Lib.hasPrefix p.data.toList [42, 46] with
  | true => exact absurd hb h
  | false => rwa [hb] at this
theorem behind_le (c : UInt8) (l : List UInt8) : (behind c l).length ≤ l.length := by
  induction l with
  | nil => simp [behind]
  | cons x l ih => unfold behind; split <;> simp <;> omega
theorem mk_size (l : List UInt8) : (⟨l.toArray⟩ : ByteArray).size = l.length := by
  show l.toArray.size = _
  simp

set_option maxRecDepth 100000 in
set_option maxHeartbeats 1000000 in
/-- chain.Matches. -/
theorem Matches_calls (p n : ByteArray) (hp : p.size ≤ 140737488351240) (hn : n.size ≤ 140737488351240) (w : World) :
    Calls Tryz.prog 21 #[.string p, .string n] w fun e w' => e = .returned (.bool (matchesP p.data.toList n.data.toList)) ∧ Below w.heap.size w w' := by
  by_cases hc : 0 < counted n.data.toList
  · by_cases hs : Lib.hasPrefix p.data.toList [42, 46] = true
    · have hM : matchesP p.data.toList n.data.toList = (decide (2 ≤ counted (p.data.toList.drop 2)) && ((p.data.toList.drop 2).map low == (behind 46 n.data.toList).map low)) := by
        unfold matchesP
        rw [decide_eq_true hc, if_pos hs]; rfl
      have hr : (⟨(p.data.toList.drop 2).toArray⟩ : ByteArray).size ≤ 140737488351240 := by rw [mk_size, List.length_drop, ← Lib.size_eq]; omega
      have HY := Lib.hid (Host_yes n hn hc)
      have HS := Lib.hid (cutStar_yes p hs)
      have HM := Lib.hid hM
      clear hM hc hs
      by_cases h2 : 2 ≤ counted (p.data.toList.drop 2)
      · have b1 : decide ((2 : Int) ≤ (counted (p.data.toList.drop 2) : Int)) = true := by simp; omega
        have H2 := Lib.hid h2
        clear h2
        go_enter Tryz.func21, Tryz.ntmps21
        go_wp2_with fail
        refine (HY.out _).mono ?_
        rintro e w1 ⟨rfl, B1⟩
        go_wp2_with fail
        refine (HS.out _).mono ?_
        rintro e w2 ⟨rfl, rfl⟩
        go_wp2_with fail
        refine (Cut_calls n hn 46 _).mono ?_
        rintro e w3 ⟨⟨a, b, f, rfl, hb⟩, B3⟩
        have hbs : b.size ≤ 140737488351240 := by
          have := behind_le 46 n.data.toList
          rw [← hb, ← Lib.size_eq, ← Lib.size_eq] at this
          omega
        have HB := Lib.hid hb
        clear hb
        go_wp2_with fail
        refine (counted_calls _ hr _).mono ?_
        rintro e w4 ⟨rfl, B4⟩
        go_wp2_with fail
        refine (lowered_calls _ hr _).mono ?_
        rintro e w5 ⟨rfl, B5⟩
        go_wp2_with fail
        refine (lowered_calls _ hbs _).mono ?_
        rintro e w6 ⟨rfl, B6⟩
        go_wp2_with fail
        go_ret
        exact ⟨by rw [HM.out, ← HB.out, decide_eq_true H2.out]; simp, B1.trans ((B3.trans ((B4.trans ((B5.trans (B6.mono B5.size)).mono B4.size)).mono B3.size)).mono B1.size)⟩
      · have b1 : decide ((2 : Int) ≤ (counted (p.data.toList.drop 2) : Int)) = false := by simp; omega
        have H2 := Lib.hid h2
        clear h2
        go_enter Tryz.func21, Tryz.ntmps21
        go_wp2_with fail
        refine (HY.out _).mono ?_
        rintro e w1 ⟨rfl, B1⟩
        go_wp2_with fail
        refine (HS.out _).mono ?_
        rintro e w2 ⟨rfl, rfl⟩
        go_wp2_with fail
        refine (Cut_calls n hn 46 _).mono ?_
        rintro e w3 ⟨⟨a, b, f, rfl, hb⟩, B3⟩
        clear hb
        go_wp2_with fail
        refine (counted_calls _ hr _).mono ?_
        rintro e w4 ⟨rfl, B4⟩
        go_wp2_with fail
        go_ret
        exact ⟨by rw [HM.out, decide_eq_false H2.out]; rfl, B1.trans ((B3.trans (B4.mono B3.size)).mono B1.size)⟩
    · have hr : (⟨p.data.toList.toArray⟩ : ByteArray).size ≤ 140737488351240 := by rw [mk_size, ← Lib.size_eq]; omega
      have HY := Lib.hid (Host_yes n hn hc)
      have HS := Lib.hid (cutStar_no p hs)
      by_cases h2 : 0 < counted p.data.toList
      · have hM : matchesP p.data.toList n.data.toList = (p.data.toList.map low == n.data.toList.map low) := by
          unfold matchesP
          rw [decide_eq_true hc, if_neg hs, decide_eq_true h2]; rfl
        have HM := Lib.hid hM
        have HP := Lib.hid (Host_yes p hp h2)
        clear hM hc hs h2
        go_enter Tryz.func21, Tryz.ntmps21
        go_wp2_with fail
        refine (HY.out _).mono ?_
        rintro e w1 ⟨rfl, B1⟩
        go_wp2_with fail
        refine (HS.out _).mono ?_
        rintro e w2 ⟨rfl, rfl⟩
        go_wp2_with fail
        refine (HP.out _).mono ?_
        rintro e w4 ⟨rfl, B4⟩
        go_wp2_with fail
        refine (lowered_calls _ hp _).mono ?_
        rintro e w5 ⟨rfl, B5⟩
        go_wp2_with fail
        refine (lowered_calls _ hn _).mono ?_
        rintro e w6 ⟨rfl, B6⟩
        go_wp2_with fail
        go_ret
        exact ⟨by rw [HM.out]; simp, B1.trans ((B4.trans ((B5.trans (B6.mono B5.size)).mono B4.size)).mono B1.size)⟩
      · have hM : matchesP p.data.toList n.data.toList = false := by
          unfold matchesP
          rw [decide_eq_true hc, if_neg hs, decide_eq_false h2]; rfl
        have HM := Lib.hid hM
        have HP := Lib.hid (Host_no p hp h2)
        clear hM hc hs h2
        go_enter Tryz.func21, Tryz.ntmps21
        go_wp2_with fail
        refine (HY.out _).mono ?_
        rintro e w1 ⟨rfl, B1⟩
        go_wp2_with fail
        refine (HS.out _).mono ?_
        rintro e w2 ⟨rfl, rfl⟩
        go_wp2_with fail
        refine (HP.out _).mono ?_
        rintro e w4 ⟨rfl, B4⟩
        go_wp2_with fail
        go_ret
        exact ⟨by rw [HM.out]; rfl, B1.trans (B4.mono B1.size)⟩
  · have hM : matchesP p.data.toList n.data.toList = false := by
      unfold matchesP
      rw [decide_eq_false hc]; rfl
    have HM := Lib.hid hM
    have HY := Lib.hid (Host_no n hn hc)
    clear hM hc
    go_enter Tryz.func21, Tryz.ntmps21
    go_wp2_with fail
    refine (HY.out _).mono ?_
    rintro e w1 ⟨rfl, B1⟩
    go_wp2_with fail
    go_ret
    exact ⟨by rw [HM.out]; rfl, B1⟩
end Go.Proofs.YtjokcflpjpophaaGreatDoor
