/- The document's Matches (drawbridgeref16): it is the program's answer, at every pattern and every host that fit the form's reach. -/
import Derived.Test.YtjokcflpjpophaaGreatDoorMatch
namespace Go.Proofs.YtjokcflpjpophaaGreatDoor
open Go.RowKit

theorem prefix_star (p : ByteArray) : Lib.hasPrefix p.data.toList [42, 46] = (decide (2 ≤ p.size) && ((p.extract 0 2).toList == [42, 46])) := by
  rw [toList_data, Lib.extract_from_zero, Lib.size_eq]
  unfold Lib.hasPrefix
  match p.data.toList with
  | [] => rfl
  | [a] => simp [List.isPrefixOf]
  | a :: b :: l =>
    rw [Bool.eq_iff_iff]
    simp [List.isPrefixOf]
    constructor <;> (rintro ⟨h1, h2⟩; exact ⟨h1.symm, h2.symm⟩)
theorem star_none (p : ByteArray) (h : Lib.hasPrefix p.data.toList [42, 46] = true) : refCount p.data.toList = 0 := by
  unfold Lib.hasPrefix at h
  unfold refCount
  rw [if_neg]
  rintro ⟨_, _, h3⟩
  match hp : p.data.toList with
  | [] => rw [hp] at h; simp [List.isPrefixOf] at h
  | [a] => rw [hp] at h; simp [List.isPrefixOf] at h
  | a :: b :: l =>
    rw [hp] at h h3
    simp [List.isPrefixOf] at h
    obtain ⟨rfl, rfl⟩ := h
    have e : cuts 46 (42 :: 46 :: l) = [42] :: cuts 46 l := by
      rw [cuts_other (by decide) (cuts_same (by decide) l)]
    rw [e] at h3
    simp [okRef, letter] at h3
theorem refCount_pos_ne {l : List UInt8} (h : 2 ≤ refCount l) : l ≠ [] := by
  rintro rfl
  simp [refCount] at h
/-- The document's answer in its own words. -/
def refMatches (p n : List UInt8) : Bool :=
  if refCount n = 0 then false else if 0 < refCount p then (p.map low == n.map low) else
  if Lib.hasPrefix p [42, 46] = true ∧ 2 ≤ refCount (p.drop 2) then (match behind 46 n with | [] => false | b => (b.map low == (p.drop 2).map low)) else false
theorem refMatches_eq (p n : ByteArray) : refMatches p.data.toList n.data.toList = matchesP p.data.toList n.data.toList := by
  unfold refMatches matchesP
  simp only [counted_eq]
  by_cases h0 : refCount n.data.toList = 0
  · rw [if_pos h0, h0]; rfl
  · rw [if_neg h0, decide_eq_true (show 0 < refCount n.data.toList by omega)]
    by_cases hs : Lib.hasPrefix p.data.toList [42, 46] = true
    · rw [if_neg (by rw [star_none p hs]; omega), if_pos hs]
      by_cases h2 : 2 ≤ refCount (p.data.toList.drop 2)
      · rw [if_pos ⟨hs, h2⟩, decide_eq_true h2]
        have hne := refCount_pos_ne h2
        generalize p.data.toList.drop 2 = r at hne
        cases hb : behind 46 n.data.toList with
        | nil => cases r with | nil => exact absurd rfl hne | cons a r => rfl
        | cons a b =>
          show ((a :: b).map low == r.map low) = (true && (true && (r.map low == (a :: b).map low)))
          rw [Bool.true_and, Bool.true_and, Bool.eq_iff_iff, beq_iff_eq, beq_iff_eq]
          exact eq_comm
      · rw [if_neg (fun k => h2 k.2), decide_eq_false h2]; rfl
    · rw [if_neg hs]
      by_cases hp : 0 < refCount p.data.toList
      · rw [if_pos hp, decide_eq_true hp]; simp
      · rw [if_neg hp, if_neg (fun k => hs k.1), decide_eq_false hp]; rfl

theorem behind_drop (c : UInt8) (l : List UInt8) (i : Nat) (hi : i < l.length) (h : ¬ (l.getD i 0 == c) = true) : behind c (l.drop i) = behind c (l.drop (i + 1)) := by
  have hc : l.drop i = l.getD i 0 :: l.drop (i + 1) := by
    rw [List.drop_eq_getElem_cons hi, List.getD_eq_getElem?_getD, List.getElem?_eq_getElem hi]; rfl
  rw [hc]
  show (if _ then _ else _) = _
  rw [if_neg h]
theorem behind_at (c : UInt8) (l : List UInt8) (i : Nat) (hi : i < l.length) (h : (l.getD i 0 == c) = true) : behind c (l.drop i) = l.drop (i + 1) := by
  have hc : l.drop i = l.getD i 0 :: l.drop (i + 1) := by
    rw [List.drop_eq_getElem_cons hi, List.getD_eq_getElem?_getD, List.getElem?_eq_getElem hi]; rfl
  rw [hc]
  show (if _ then _ else _) = _
  rw [if_pos h]

theorem behind_match (b r : List UInt8) (h : r ≠ []) : (match b with | [] => false | b => (b.map low == r.map low)) = (b.map low == r.map low) := by
  cases b with
  | nil => cases r with | nil => exact absurd rfl h | cons a r => rfl
  | cons a b => rfl
def BehindIs (n : List UInt8) (i : Nat) : Prop := behind 46 n = behind 46 (n.drop i)

set_option maxRecDepth 100000 in
set_option maxHeartbeats 4000000 in
theorem rMatches_calls (p n : ByteArray) (hp : p.size ≤ 140737488351240) (hn : n.size ≤ 140737488351240) (w : World) :
    Calls Tryz.prog 54 #[.string p, .string n] w fun e w' => e = .returned (.bool (refMatches p.data.toList n.data.toList)) ∧ Below w.heap.size w w' := by
  by_cases h0 : refCount n.data.toList = 0
  · have HM : Hid (refMatches p.data.toList n.data.toList = false) := Lib.hid (by unfold refMatches; rw [if_pos h0])
    have c0 : (((refCount n.data.toList : Nat) : Int) == 0) = true := by simp [h0]
    clear h0
    go_enter Tryz.func54, Tryz.ntmps54
    go_wp2_with fail
    refine (rlabels_calls n hn _).mono ?_
    rintro e w1 ⟨rfl, rfl⟩
    go_wp2_with fail
    go_ret
    exact ⟨by rw [HM.out]; rfl, Below.refl _ _⟩
  · have c0 : (((refCount n.data.toList : Nat) : Int) == 0) = false := by simp; exact h0
    by_cases h1 : 0 < refCount p.data.toList
    · have HM : Hid (refMatches p.data.toList n.data.toList = (p.data.toList.map low == n.data.toList.map low)) := Lib.hid (by unfold refMatches; rw [if_neg h0, if_pos h1])
      have c1 : decide (0 < ((refCount p.data.toList : Nat) : Int)) = true := by simp; omega
      have H1 := Lib.hid h1
      have H0 := Lib.hid h0
      clear h0 h1
      go_enter Tryz.func54, Tryz.ntmps54
      go_wp2_with fail
      refine (rlabels_calls n hn _).mono ?_
      rintro e w1 ⟨rfl, rfl⟩
      go_wp2_with fail
      refine (rlabels_calls p hp _).mono ?_
      rintro e w1 ⟨rfl, rfl⟩
      go_wp2_with fail
      refine (rsmall_calls p hp _).mono ?_
      rintro e w2 ⟨rfl, B2⟩
      go_wp2_with fail
      refine (rsmall_calls n hn _).mono ?_
      rintro e w3 ⟨rfl, B3⟩
      go_wp2_with fail
      go_ret
      exact ⟨by rw [HM.out]; simp, B2.trans (B3.mono B2.size)⟩
    · have c1 : decide (0 < ((refCount p.data.toList : Nat) : Int)) = false := by simp; omega
      have H1 := Lib.hid h1
      have H0 := Lib.hid h0
      by_cases hsz : 2 ≤ p.size
      · have b1 : decide ((p.size : Int) < 2) = false := by simp; omega
        by_cases hx : ((p.extract 0 2).toList == [42, 46]) = true
        · have hpre : Lib.hasPrefix p.data.toList [42, 46] = true := by rw [prefix_star, hx, decide_eq_true hsz]; rfl
          have hrs : (p.extract 2 p.size).size ≤ 140737488351240 := by simp; omega
          have hrd : (p.extract 2 p.size).data.toList = p.data.toList.drop 2 := Lib.extract_to_end p 2
          obtain ⟨R, hR⟩ : ∃ R, refCount (p.data.toList.drop 2) = R := ⟨_, rfl⟩
          have HL : Hid (∀ w, Calls Tryz.prog 79 #[.string (p.extract 2 p.size)] w fun e w' => e = .returned (.int .i64 (R : Int)) ∧ w = w') := by
            intro w
            have := rlabels_calls _ hrs w
            rw [hrd, hR] at this
            exact this
          by_cases h2 : 2 ≤ refCount (p.data.toList.drop 2)
          · have c2 : decide ((R : Int) < 2) = false := by rw [← hR]; simp; omega
            have HM : Hid (refMatches p.data.toList n.data.toList = (match behind 46 n.data.toList with | [] => false | b => (b.map low == (p.data.toList.drop 2).map low))) := Lib.hid (by unfold refMatches; rw [if_neg h0, if_neg h1, if_pos ⟨hpre, h2⟩])
            have HNE : Hid (p.data.toList.drop 2 ≠ []) := Lib.hid (refCount_pos_ne (by rw [hR]; rw [hR] at h2; exact h2))
            have HS : Hid (∀ w, Calls Tryz.prog 80 #[.string (p.extract 2 p.size)] w fun e w' => e = .returned (.string ⟨((p.data.toList.drop 2).map low).toArray⟩) ∧ Below w.heap.size w w') := by
              intro w
              have := rsmall_calls _ hrs w
              rw [hrd] at this
              exact this
            have HN : Hid (n.data.toList.length = n.size) := (Lib.size_eq n).symm
            clear h0 h1 h2 hpre hrd hR
            go_enter Tryz.func54, Tryz.ntmps54
            go_wp2_with fail
            refine (rlabels_calls n hn _).mono ?_
            rintro e w1 ⟨rfl, rfl⟩
            go_wp2_with fail
            refine (rlabels_calls p hp _).mono ?_
            rintro e w1 ⟨rfl, rfl⟩
            go_wp2_with fail
            refine (HL.out _).mono ?_
            rintro e w1 ⟨rfl, rfl⟩
            go_wp2_with fail
            go_loop [5] (fun i => ∃ i' : Nat, i = .int .i64 i' ∧ i' ≤ n.size ∧ BehindIs n.data.toList i') (fun i => n.size - (intOf i).toNat)
            case atStart => exact ⟨0, rfl, Nat.zero_le _, rfl⟩
            case round =>
              obtain ⟨i, rfl, hi, hB⟩ := hrel
              by_cases hlt : i < n.size
              · have hx := getD_byte n i hlt
                by_cases hdot : (n[i].toNat : Int) = 46
                · have d1 : ((n[i].toNat : Int) == 46) = true := by simp [hdot]
                  have d3 : (n.data.toList.getD i 0 == 46) = true := by rw [hx, show (46 : UInt8) = UInt8.ofNat 46 from rfl, byte_is _ _ (by omega)]; exact d1
                  have hbi : behind 46 n.data.toList = n.data.toList.drop (i + 1) := by
                    rw [show behind 46 n.data.toList = _ from hB]
                    exact behind_at 46 _ i (by rw [HN.out]; exact hlt) d3
                  have hns : (n.extract (i + 1) n.size).size ≤ 140737488351240 := by simp; omega
                  have HS2 : Hid (∀ w, Calls Tryz.prog 80 #[.string (n.extract (i + 1) n.size)] w fun e w' => e = .returned (.string ⟨((behind 46 n.data.toList).map low).toArray⟩) ∧ Below w.heap.size w w') := by
                    intro w
                    have := rsmall_calls _ hns w
                    rw [Lib.extract_to_end, ← hbi] at this
                    exact this
                  clear hdot hx d3 hbi hB
                  go_wp2
                  have k1 : (0 : Int) ≤ (i : Int) + 1 := by omega
                  have k2 : (i : Int) + 1 ≤ (n.size : Int) := by omega
                  have k5 : (2 : Nat) ≤ p.size := hsz
                  have k6 : (2 : Int) ≤ (p.size : Int) := by omega
                  have k7 : i + 1 ≤ n.size := by omega
                  have k3 : IntKind.i64.wrap ((i : Int) + 1) = (i : Int) + 1 := IntWalk.i64_in _ (by omega)
                  have k4 : ((i : Int) + 1).toNat = i + 1 := by omega
                  go_region_with (first | (go_at_call 80; (with_reducible refine (HS2.out _).mono ?_); rintro e w2 ⟨rfl, B2⟩) | (go_at_call 80; (with_reducible refine (HS.out _).mono ?_); rintro e w3 ⟨rfl, B3⟩))
                  all_goals go_wp2
                  all_goals go_ret
                  refine ⟨?_, (((Below.refl _ w).drew).trans (B2.trans (B3.mono B2.size)))⟩
                  rw [HM.out, behind_match _ _ HNE.out]
                  simp [Act.put]
                · have d1 : ((n[i].toNat : Int) == 46) = false := by simpa using hdot
                  have hn2 : BehindIs n.data.toList (i + 1) := by
                    unfold BehindIs at hB ⊢
                    rw [hB]
                    exact behind_drop 46 _ i (by rw [HN.out]; exact hlt) (by rw [hx, show (46 : UInt8) = UInt8.ofNat 46 from rfl, byte_is _ _ (by omega)]; simpa using hdot)
                  clear hdot hx
                  go_wp2
                  go_round
                  case rel => exact ⟨i + 1, by go_num, by omega, hn2⟩
                  case measure => simp [intOf]; omega
              · have hbe : behind 46 n.data.toList = [] := by
                  rw [show behind 46 n.data.toList = _ from hB, List.drop_of_length_le (by rw [HN.out]; omega)]; rfl
                have HBE := Lib.hid hbe
                clear hbe
                go_wp2
                go_ret
                exact ⟨by rw [HM.out, HBE.out]; rfl, Below.refl _ _⟩
          · have c2 : decide ((R : Int) < 2) = true := by rw [← hR]; simp; omega
            have HM : Hid (refMatches p.data.toList n.data.toList = false) := Lib.hid (by unfold refMatches; rw [if_neg h0, if_neg h1, if_neg (fun k => h2 k.2)])
            clear h0 h1 h2 hpre hrd hR
            go_enter Tryz.func54, Tryz.ntmps54
            go_wp2_with fail
            refine (rlabels_calls n hn _).mono ?_
            rintro e w1 ⟨rfl, rfl⟩
            go_wp2_with fail
            refine (rlabels_calls p hp _).mono ?_
            rintro e w1 ⟨rfl, rfl⟩
            go_wp2_with fail
            refine (HL.out _).mono ?_
            rintro e w1 ⟨rfl, rfl⟩
            go_wp2_with fail
            go_ret
            exact ⟨by rw [HM.out]; rfl, Below.refl _ _⟩
        · have hx' : ((p.extract 0 2).toList == [42, 46]) = false := by simpa using hx
          have hpre : ¬ Lib.hasPrefix p.data.toList [42, 46] = true := by rw [prefix_star, hx']; simp
          have HM : Hid (refMatches p.data.toList n.data.toList = false) := Lib.hid (by unfold refMatches; rw [if_neg h0, if_neg h1, if_neg (fun k => hpre k.1)])
          clear h0 h1 hpre hx
          go_enter Tryz.func54, Tryz.ntmps54
          go_wp2_with fail
          refine (rlabels_calls n hn _).mono ?_
          rintro e w1 ⟨rfl, rfl⟩
          go_wp2_with fail
          refine (rlabels_calls p hp _).mono ?_
          rintro e w1 ⟨rfl, rfl⟩
          go_wp2_with fail
          go_ret
          exact ⟨by rw [HM.out]; rfl, Below.refl _ _⟩
      · have b1 : decide ((p.size : Int) < 2) = true := by simp; omega
        have hpre : ¬ Lib.hasPrefix p.data.toList [42, 46] = true := by rw [prefix_star, decide_eq_false hsz]; simp
        have HM : Hid (refMatches p.data.toList n.data.toList = false) := Lib.hid (by unfold refMatches; rw [if_neg h0, if_neg h1, if_neg (fun k => hpre k.1)])
        clear h0 h1 hpre
        go_enter Tryz.func54, Tryz.ntmps54
        go_wp2_with fail
        refine (rlabels_calls n hn _).mono ?_
        rintro e w1 ⟨rfl, rfl⟩
        go_wp2_with fail
        refine (rlabels_calls p hp _).mono ?_
        rintro e w1 ⟨rfl, rfl⟩
        go_wp2_with fail
        go_ret
        exact ⟨by rw [HM.out]; rfl, Below.refl _ _⟩
end Go.Proofs.YtjokcflpjpophaaGreatDoor
