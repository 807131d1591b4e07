/- config.of, file, pattern, protocol, however they end. Conditions: the listed variables hold what their text lays; the words within the reach. -/
import Derived.Test.YtjokcflpjpophaaGreatDoorCutR
import Derived.Test.YtjokcflpjpophaaGreatDoorNumber
namespace Go.Proofs.YtjokcflpjpophaaGreatDoor
open Go.RowKit

theorem dropWhile_first : ∀ (p : UInt8 → Bool) (l : List UInt8), 0 < (l.dropWhile p).length → p ((l.dropWhile p).getD 0 0) = false
  | p, [], h => by simp at h
  | p, x :: l, h => by
    rw [List.dropWhile_cons] at h ⊢
    by_cases hx : p x = true
    · rw [if_pos hx] at h ⊢
      exact dropWhile_first p l h
    · rw [if_neg hx]
      simpa using hx
theorem cutL_size (s set : ByteArray) : (cutL s set).size ≤ s.size := by
  have h1 : (cutL s set).size = (s.data.toList.dropWhile (set.data.toList.contains ·)).length := by simp [cutL, ByteArray.size]
  have h2 : s.data.toList.length = s.size := by rw [Array.length_toList]; rfl
  rw [h1, ← h2]
  exact (List.dropWhile_suffix _).length_le
theorem cutL_first (s set : ByteArray) (h : 0 < (cutL s set).size) : set.data.toList.contains ((cutL s set).data.toList.getD 0 0) = false := by
  have h1 : (cutL s set).size = (s.data.toList.dropWhile (set.data.toList.contains ·)).length := by simp [cutL, ByteArray.size]
  have := dropWhile_first (set.data.toList.contains ·) s.data.toList (by omega)
  simpa [cutL] using this
theorem cutL_empty (s set : ByteArray) : (cutL s set).toList.isEmpty = s.data.toList.all (set.data.toList.contains ·) := by
  rw [ByteArray.toList_eq]
  have e : (cutL s set).data.toList = s.data.toList.dropWhile (set.data.toList.contains ·) := by simp [cutL]
  rw [e, Bool.eq_iff_iff, List.isEmpty_iff, dropWhile_nil]

/-- A word, if it is one that may be. -/
def nameR (b : Bool) (s : ByteArray) : Except Int Value := nameE b (.ok (.string s))
theorem nameR_no (s : ByteArray) : nameR false s = .error 223 := rfl
theorem nameR_ok (s : ByteArray) : nameR true s = .ok (.string s) := rfl

set_option maxRecDepth 100000 in
set_option maxHeartbeats 2000000 in
theorem of_calls (s set : ByteArray) (hs : s.size ≤ 140737488351240) (hset : ∀ b ∈ set.data.toList, b.toNat < 128) (w : World) (hL : LaidW w) :
    Calls Tryz.prog 60 #[.string s, .string set] w fun e w' => Ends w w' e (nameR (ofV set.data.toList s) s) := by
  have HS := Lib.hid hset
  clear hset
  go_enter Tryz.func60, Tryz.ntmps60
  by_cases h0 : s.size = 0
  · have hv : ofV set.data.toList s = false := by unfold ofV; rw [decide_eq_false (fun h => h.1 h0)]; rfl
    have he : s.toList.isEmpty = true := by rw [isEmpty_size, decide_eq_true h0]
    have HV := Lib.hid hv
    clear hv
    go_wp2_with fail
    refine (must_no 223 _).mono ?_
    rintro e w2 ⟨rfl, rfl⟩
    exact ⟨rfl, Below.refl _ _, by rw [HV.out]; rfl⟩
  · have he : s.toList.isEmpty = false := by rw [isEmpty_size, decide_eq_false h0]
    by_cases h32 : s.size ≤ 32
    · have hv : ofV set.data.toList s = (cutL s set).toList.isEmpty := by unfold ofV; rw [decide_eq_true ⟨h0, h32⟩, cutL_empty]; rfl
      have HV := Lib.hid hv
      clear hv
      go_wp2_with fail
      refine (cutLeft_calls s set hs HS.out _).mono ?_
      rintro e w1 ⟨rfl, B1⟩
      dsimp only
      go_wp2_with fail
      refine (cutRight_calls (cutL s set) set (by have := cutL_size s set; omega) HS.out (fun h => cutL_first s set h) w1 (hL.below B1 hL.size)).mono ?_
      rintro e w2 ⟨⟨u, rfl, hu⟩, B2⟩
      have B12 := B1.trans (B2.mono B1.size)
      dsimp only
      cases hc : (cutL s set).toList.isEmpty with
      | true =>
        rw [hc] at hu
        rw [hc] at HV
        go_wp2_with fail
        refine (must_ok _ _).mono ?_
        rintro e w3 ⟨rfl, rfl⟩
        dsimp only
        go_wp2
        go_ret
        exact ⟨B12, by rw [HV.out]; rfl⟩
      | false =>
        rw [hc] at hu
        rw [hc] at HV
        go_wp2_with fail
        refine (must_no 223 _).mono ?_
        rintro e w3 ⟨rfl, rfl⟩
        exact ⟨rfl, B12, by rw [HV.out]; rfl⟩
    · have hv : ofV set.data.toList s = false := by unfold ofV; rw [decide_eq_false (fun h => h32 h.2)]; rfl
      have HV := Lib.hid hv
      clear hv
      go_wp2_with fail
      refine (must_no 223 _).mono ?_
      rintro e w2 ⟨rfl, rfl⟩
      exact ⟨rfl, Below.refl _ _, by rw [HV.out]; rfl⟩

set_option maxRecDepth 100000 in
theorem file_calls (s : ByteArray) (hs : s.size ≤ 140737488351240) (w : World) (hL : LaidW w) :
    Calls Tryz.prog 35 #[.string s] w fun e w' => Ends w w' e (nameR (ofV fileL s) s) := by
  have ho := of_calls s ⟨fileL.toArray⟩ hs (by decide) w hL
  have HO := Lib.hid ho
  clear ho
  go_enter Tryz.func35, Tryz.ntmps35
  go_wp2_with fail
  refine HO.out.mono ?_
  rintro e w1 ⟨B1, rfl⟩
  cases hv : ofV fileL s with
  | true =>
    dsimp only [nameR_ok]
    go_wp2
    go_ret
    exact ⟨B1, by rw [hv]; rfl⟩
  | false =>
    exact ⟨rfl, B1, by rw [hv]; rfl⟩

theorem data_is (s : ByteArray) (a : Array UInt8) : s.data = a ↔ s.toList = a.toList := by
  rw [ByteArray.toList_eq]
  exact ⟨fun h => by rw [h], fun h => Array.ext' h⟩

set_option maxRecDepth 100000 in
set_option maxHeartbeats 2000000 in
theorem pattern_calls (s : ByteArray) (hs : s.size ≤ 140737488351240) (w : World) :
    Calls Tryz.prog 61 #[.string s] w fun e w' => Ends w w' e (nameR (patV s) s) := by
  obtain ⟨r, hr⟩ : ∃ r : ByteArray, r = ⟨(Lib.trimPrefix s.data.toList [42, 46]).toArray⟩ := ⟨_, rfl⟩
  obtain ⟨b, hb⟩ : ∃ b, Lib.hasPrefix s.data.toList [42, 46] = b := ⟨_, rfl⟩
  have hrs : r.size ≤ 140737488351240 := by
    have h2 : s.data.toList.length = s.size := by rw [Array.length_toList]; rfl
    have : r.size = (Lib.trimPrefix s.data.toList [42, 46]).length := by rw [hr]; simp [ByteArray.size]
    have h3 : (Lib.trimPrefix s.data.toList [42, 46]).length ≤ s.data.toList.length := by
      unfold Lib.trimPrefix
      split
      · rw [List.length_drop]; omega
      · omega
    omega
  have hc := Tryz.strings_CutPrefix s ⟨#[42, 46]⟩ w
  have hp : patV s = (decide (s.data = #[42]) || (hostV r.data.toList && (!b || decide (0 ≤ Lib.indexByte r.data.toList 46)))) := by
    unfold patV
    rw [hr, ← hb]
  have hc' : Calls Tryz.prog 50 #[.string s, .string ⟨#[42, 46]⟩] w fun e w' => e = .returned (.tuple #[.string r, .bool b]) ∧ w' = w := by
    rw [hr, ← hb]
    exact hc
  have HC := Lib.hid (And.intro hc' hp)
  clear hc hc' hp hr hb
  go_enter Tryz.func61, Tryz.ntmps61
  go_wp2_with fail
  refine HC.out.1.mono ?_
  rintro e w1 ⟨rfl, rfl⟩
  dsimp only
  by_cases h42 : s.toList = [42]
  · have hpt : patV s = true := by rw [HC.out.2, decide_eq_true ((data_is s #[42]).2 h42)]; rfl
    have HP := Lib.hid hpt
    clear hpt
    go_wp2_with fail
    refine (must_ok _ _).mono ?_
    rintro e w3 ⟨rfl, rfl⟩
    dsimp only
    go_wp2
    go_ret
    exact ⟨Below.refl _ _, by rw [HP.out]; rfl⟩
  · have hd : decide (s.data = #[42]) = false := decide_eq_false (fun h => h42 ((data_is s #[42]).1 h))
    have HD := Lib.hid hd
    clear hd
    go_wp2_with fail
    refine (Host_calls r hrs _).mono ?_
    rintro e w2 ⟨rfl, B2⟩
    have hh : decide (0 < counted r.data.toList) = hostV r.data.toList := rfl
    rw [hh]
    dsimp only
    cases hhv : hostV r.data.toList with
    | false =>
      have hpt : patV s = false := by rw [HC.out.2, HD.out, hhv]; rfl
      have HP := Lib.hid hpt
      clear hpt hh
      have hb42 : (s.toList == [42]) = false := by simpa using h42
      go_wp2_with fail
      refine (must_no 223 _).mono ?_
      rintro e w3 ⟨rfl, rfl⟩
      exact ⟨rfl, B2, by rw [HP.out]; rfl⟩
    | true =>
      cases b with
      | false =>
        have hpt : patV s = true := by rw [HC.out.2, HD.out, hhv]; rfl
        have HP := Lib.hid hpt
        clear hpt hh
        go_wp2_with fail
        refine (must_ok _ _).mono ?_
        rintro e w3 ⟨rfl, rfl⟩
        dsimp only
        go_wp2
        go_ret
        exact ⟨B2, by rw [HP.out]; rfl⟩
      | true =>
        have hpt : patV s = decide (0 ≤ Lib.indexByte r.data.toList 46) := by rw [HC.out.2, HD.out, hhv]; rfl
        have hct := Tryz.strings_Contains_one r 46 w2
        rw [← hpt] at hct
        have HP := Lib.hid hct
        clear hpt hh hct
        go_wp2_with fail
        refine HP.out.mono ?_
        rintro e w3 ⟨rfl, rfl⟩
        dsimp only
        cases hpv : patV s with
        | true =>
          go_wp2_with fail
          refine (must_ok _ _).mono ?_
          rintro e w4 ⟨rfl, rfl⟩
          dsimp only
          go_wp2
          go_ret
          exact ⟨B2, by rw [hpv]; rfl⟩
        | false =>
          have hb42 : (s.toList == [42]) = false := by simpa using h42
          go_wp2_with fail
          refine (must_no 223 _).mono ?_
          rintro e w4 ⟨rfl, rfl⟩
          exact ⟨rfl, B2, by rw [hpv]; rfl⟩

theorem oddRune_int (x : Nat) : oddRune x = (decide ((x : Int) < 33) || decide (126 < (x : Int)) || ((x : Int) == 44)) := by
  have h1 : decide (x < 33) = decide ((x : Int) < 33) := decide_eq_decide.2 (by omega)
  have h2 : decide (126 < x) = decide (126 < (x : Int)) := decide_eq_decide.2 (by omega)
  have h3 : decide (x = 44) = ((x : Int) == 44) := by
    rw [Bool.eq_iff_iff, decide_eq_true_iff, beq_iff_eq]
    omega
  unfold oddRune
  rw [h1, h2, h3]
theorem oddRune_calls (x : Nat) (w : World) : Calls Tryz.prog 88 #[.int .i32 x] w fun e w' => e = .returned (.bool (oddRune x)) ∧ ∃ q, w' = w.drewN q := by
  have ho := oddRune_int x
  have HO := Lib.hid ho
  clear ho
  go_enter Tryz.func88, Tryz.ntmps88
  go_wp2
  all_goals go_ret
  all_goals refine ⟨?_, 0, rfl⟩
  all_goals rw [HO.out]
  · rfl
  · rename_i h1 h2
    exact congrArg (fun b => Ending.returned (Value.bool b)) (by rw [decide_eq_true h2]; simp)
  · rename_i h1
    exact congrArg (fun b => Ending.returned (Value.bool b)) (by rw [decide_eq_true h1]; simp)

theorem odd_calls (s : ByteArray) (w : World) : Calls Tryz.prog 87 #[.string s, .func (.func 88) #[] #[]] w fun e w' => e = .returned (.bool (decide (0 ≤ Lib.idxFunc oddRune true s))) ∧ Below w.heap.size w w' :=
  Tryz.strings_ContainsFunc_runes 88 #[] (enters_of Tryz.func88 (by kernel_rfl) rfl) oddRune s w (fun W x _ _ => oddRune_calls x W)

set_option maxRecDepth 100000 in
set_option maxHeartbeats 2000000 in
theorem protocol_calls (s : ByteArray) (hs : s.size ≤ 140737488351240) (w : World) :
    Calls Tryz.prog 62 #[.string s] w fun e w' => Ends w w' e (nameR (protoV s) s) := by
  obtain ⟨b, hb⟩ : ∃ b, decide (0 ≤ Lib.idxFunc oddRune true s) = b := ⟨_, rfl⟩
  have hc := odd_calls s w
  rw [hb] at hc
  have hp : protoV s = (decide (s.size ≠ 0 ∧ s.size ≤ 32) && !b) := by
    unfold protoV
    rw [hb]
  have HC := Lib.hid (And.intro hc hp)
  clear hc hp hb
  go_enter Tryz.func62, Tryz.ntmps62
  go_wp2_with fail
  refine HC.out.1.mono ?_
  rintro e w1 ⟨rfl, B1⟩
  dsimp only
  by_cases h0 : s.size = 0
  · have hv : protoV s = false := by rw [HC.out.2, decide_eq_false (fun h => h.1 h0)]; rfl
    have he : s.toList.isEmpty = true := by rw [isEmpty_size, decide_eq_true h0]
    have HV := Lib.hid hv
    clear hv
    go_wp2_with fail
    refine (must_no 223 _).mono ?_
    rintro e w2 ⟨rfl, rfl⟩
    exact ⟨rfl, B1, by rw [HV.out]; rfl⟩
  · have he : s.toList.isEmpty = false := by rw [isEmpty_size, decide_eq_false h0]
    by_cases h32 : s.size ≤ 32
    · cases b with
      | true =>
        have hv : protoV s = false := by rw [HC.out.2]; simp
        have HV := Lib.hid hv
        clear hv
        go_wp2_with fail
        refine (must_no 223 _).mono ?_
        rintro e w2 ⟨rfl, rfl⟩
        exact ⟨rfl, B1, by rw [HV.out]; rfl⟩
      | false =>
        have hv : protoV s = true := by rw [HC.out.2, decide_eq_true ⟨h0, h32⟩]; rfl
        have HV := Lib.hid hv
        clear hv
        go_wp2_with fail
        refine (must_ok _ _).mono ?_
        rintro e w2 ⟨rfl, rfl⟩
        dsimp only
        go_wp2
        go_ret
        exact ⟨B1, by rw [HV.out]; rfl⟩
    · have hv : protoV s = false := by rw [HC.out.2, decide_eq_false (fun h => h32 h.2)]; rfl
      have HV := Lib.hid hv
      clear hv
      go_wp2_with fail
      refine (must_no 223 _).mono ?_
      rintro e w2 ⟨rfl, rfl⟩
      exact ⟨rfl, B1, by rw [HV.out]; rfl⟩
end Go.Proofs.YtjokcflpjpophaaGreatDoor
