/- config.number, however it ends. Conditions: the listed variables hold what their text lays. -/
import Derived.Test.YtjokcflpjpophaaGreatDoorNum
namespace Go.Proofs.YtjokcflpjpophaaGreatDoor
open Go.RowKit Go.Sort

theorem atoiAll_bounds {l : List UInt8} {v : Int} (h : Lib.atoiAll l = .ok v) : -9223372036854775808 ≤ v ∧ v ≤ 9223372036854775807 := by
  unfold Lib.atoiAll at h
  split at h
  · cases h
  · simp only [] at h
    split at h
    · cases h
    · cases h
    · split at h
      · cases h
      · split at h
        · cases h
        · cases h
          split <;> omega

set_option maxRecDepth 100000 in
set_option maxHeartbeats 1000000 in
theorem number_calls (s : ByteArray) (lo hi : Int) (hs : s.size ≤ 281474976710656) (w : World) (hL : LaidW w) :
    Calls Tryz.prog 32 #[.string s, .int .i64 lo, .int .i64 hi] w fun e w' => Ends w w' e (bindE (numE s lo hi) fun n => .ok (.int .i64 n)) := by
  have hA := Lib.hid (atoi_ends s hs w hL)
  go_enter Tryz.func32, Tryz.ntmps32
  go_wp2_with fail
  refine hA.out.mono ?_
  rintro e w1 ⟨B1, ⟨v, hv, rfl⟩ | ⟨hv, v, t, p, rfl⟩⟩
  · dsimp only
    by_cases h6 : s.size ≤ 6
    · have hb := atoiAll_bounds hv
      go_wp2_with fail
      refine (Tryz.strconv_Itoa v hb.1 hb.2 w1 (hL.below B1 hL.size).pow).mono ?_
      rintro e w2 ⟨rfl, k, os, rfl⟩
      dsimp only
      have B2 : Below w.heap.size w (grow (w1.drewN k) os) := B1.trans ((grow_below' w1 k os).mono B1.size)
      have HV := Lib.hid hv
      clear hv
      have hno : ∀ P : Prop, ¬ P → (s.size ≤ 6 ∧ (Lib.itoa v = s.data.toList ∧ (lo ≤ v ∧ v ≤ hi)) → P) → numE s lo hi = .error 222 := by
        intro P hP himp
        unfold numE numV
        rw [HV.out]
        simp only []
        rw [if_neg (fun h => hP (himp h))]
      have HN := Lib.hid hno
      clear hno
      by_cases hit : Lib.itoa v = s.toList
      · by_cases hlo : lo ≤ v
        · go_wp2_with fail
          by_cases hh : v ≤ hi
          · have hok : numE s lo hi = .ok v := by
              unfold numE numV
              rw [HV.out]
              simp only []
              rw [if_pos ⟨h6, by rw [hit, ByteArray.toList_eq], hlo, hh⟩]
            have HK := Lib.hid hok
            clear hok
            rw [decide_eq_true hh]
            refine (must_ok _ _).mono ?_
            rintro e w2 ⟨rfl, rfl⟩
            dsimp only
            go_wp2
            go_ret
            exact ⟨B2, by rw [HK.out]; rfl⟩
          · rw [decide_eq_false hh]
            refine (must_no 222 _).mono ?_
            rintro e w2 ⟨rfl, rfl⟩
            exact ⟨rfl, B2, by rw [HN.out _ hh (fun h => h.2.2.2)]; rfl⟩
        · go_wp2_with fail
          refine (must_no 222 _).mono ?_
          rintro e w2 ⟨rfl, rfl⟩
          exact ⟨rfl, B2, by rw [HN.out (lo ≤ v) (by omega) (fun h => h.2.2.1)]; rfl⟩
      · go_wp2_with fail
        refine (must_no 222 _).mono ?_
        rintro e w2 ⟨rfl, rfl⟩
        exact ⟨rfl, B2, by rw [HN.out _ hit (fun h => by rw [h.2.1, ByteArray.toList_eq])]; rfl⟩
    · have hn : numE s lo hi = .error 222 := by
        unfold numE numV
        rw [hv]
        simp only []
        rw [if_neg (fun h => h6 h.1)]
      have HN := Lib.hid hn
      clear hn
      go_wp2_with fail
      refine (must_no 222 _).mono ?_
      rintro e w2 ⟨rfl, rfl⟩
      exact ⟨rfl, B1, by rw [HN.out]; rfl⟩
  · have hn : numE s lo hi = .error 222 := by
      unfold numE numV
      split
      · rename_i n hn
        split at hn
        · rename_i v' hv'
          exact absurd hv' (hv v')
        · cases hn
      · rfl
    have HN := Lib.hid hn
    clear hn
    dsimp only
    go_wp2_with fail
    refine (must_no 222 _).mono ?_
    rintro e w2 ⟨rfl, rfl⟩
    exact ⟨rfl, B1, by rw [HN.out]; rfl⟩
end Go.Proofs.YtjokcflpjpophaaGreatDoor
