/- The functions that read the lines tickets and clients. Conditions: the reader's block, its map and the words are there. -/
import Derived.Test.YtjokcflpjpophaaGreatDoorStage
namespace Go.Proofs.YtjokcflpjpophaaGreatDoor
open Go.RowKit
attribute [local go_sem ↓] Go.wp_at_zero Go.wp_at_succ

set_option maxRecDepth 100000 in
set_option maxHeartbeats 2000000 in
theorem tickets_calls (rb sm ww : Nat) (C : Array Value) (o7 o8 o9 : Value) (x0 x1 x2 x3 : ByteArray) (cap : Nat) (es : Array MapEntry) (clk : Nat) (w : World) (T : Stage w w rb sm ww C es clk [x0, x1, x2, x3])
    (hx1 : x1.size ≤ 140737488351240) (hx2 : x2.size ≤ 140737488351240) (hx3 : x3.size ≤ 140737488351240) (hc7 : C[7]? = some o7) (hc8 : C[8]? = some o8) (hc9 : C[9]? = some o9) :
    Calls Tryz.prog 34 #[.pointer (some ⟨rb, 0, none⟩), .slice (some ⟨ww, 0, none⟩) 4 cap] w fun e w' =>
      SaysR w w' rb sm es clk x0 e (nameE (ofV fileL x1) (bindE (numE x2 1 604800) fun n => bindE (numE x3 0 4) fun m => .ok (((C.setIfInBounds 7 (.string x1)).setIfInBounds 8 (.int .i64 n)).setIfInBounds 9 (.int .i64 m)))) := by
  have g1 := T.words 1 x1 rfl
  have HF := Lib.hid (file_calls x1 hx1 w T.L)
  have HT := Lib.hid T
  have HC := Lib.hid (And.intro hc7 (And.intro hc8 hc9))
  clear T hc7 hc8 hc9
  go_enter Tryz.func34, Tryz.ntmps34
  go_wp2_with fail
  refine HF.out.mono ?_
  rintro e w1 ⟨B1, he⟩
  have T1 := HT.out.below B1
  cases hv : ofV fileL x1 with
  | false =>
    rw [hv] at he
    obtain rfl := he
    exact ⟨rfl, T1.gave rfl (by rw [hv]; rfl)⟩
  | true =>
    rw [hv] at he
    obtain rfl := he
    have c1 := (T1.R.cell 7).trans HC.out.1
    have f1 := T1.R.free 7
    have k1 := T1.words 2 x2 rfl
    have T2 := T1.set 7 (by decide) (.string x1)
    have k2 := T2.words 2 x2 rfl
    have HN2 := Lib.hid (number_calls x2 1 604800 (by omega) _ T2.L)
    have H2 := Lib.hid T2
    have H1 := Lib.hid T1
    clear T1 T2
    dsimp only [nameR_ok]
    go_wp2_with fail
    refine HN2.out.mono ?_
    rintro e w2 ⟨B2, he⟩
    have T3 := H2.out.below B2
    cases hn : numE x2 1 604800 with
    | error k =>
      rw [hn] at he
      obtain rfl := he
      exact ⟨rfl, T3.gave rfl (by rw [hv, hn]; rfl)⟩
    | ok n =>
      rw [hn] at he
      obtain rfl := he
      have c3 := (T3.R.cell 8).trans (show (C.setIfInBounds 7 (.string x1))[8]? = some o8 by rw [Array.getElem?_setIfInBounds_ne (by decide)]; exact HC.out.2.1)
      have f3 := T3.R.free 8
      have k3 := T3.words 3 x3 rfl
      have T4 := T3.set 8 (by decide) (.int .i64 n)
      have k4 := T4.words 3 x3 rfl
      have HN4 := Lib.hid (number_calls x3 0 4 (by omega) _ T4.L)
      have H4 := Lib.hid T4
      clear T3 T4
      dsimp only [bindE]
      go_wp2_with fail
      refine HN4.out.mono ?_
      rintro e w3 ⟨B3, he⟩
      have T5 := H4.out.below B3
      cases hn2 : numE x3 0 4 with
      | error k =>
        rw [hn2] at he
        obtain rfl := he
        exact ⟨rfl, T5.gave rfl (by rw [hv, hn, hn2]; rfl)⟩
      | ok m =>
        rw [hn2] at he
        obtain rfl := he
        have c5 := (T5.R.cell 9).trans (show ((C.setIfInBounds 7 (.string x1)).setIfInBounds 8 (.int .i64 n))[9]? = some o9 by rw [Array.getElem?_setIfInBounds_ne (by decide), Array.getElem?_setIfInBounds_ne (by decide)]; exact HC.out.2.2)
        have f5 := T5.R.free 9
        have k5 := T5.words 0 x0 rfl
        have T6 := T5.set 9 (by decide) (.int .i64 m)
        have k6 := T6.words 0 x0 rfl
        have HO := Lib.hid (T6.once x0)
        clear T5 T6
        dsimp only [bindE]
        go_wp2_with fail
        refine HO.out.mono ?_
        rintro e w4 ⟨hS, ⟨hy, rfl⟩ | ⟨hy, rfl, hb, hm2⟩⟩
        · exact ⟨rfl, hS, by rw [hv, hn, hn2]; exact .inl ⟨hy, rfl⟩⟩
        · dsimp only
          go_wp2
          go_end0
          exact ⟨hS, by rw [hv, hn, hn2]; exact .inr ⟨hy, rfl, hb, hm2⟩⟩
end Go.Proofs.YtjokcflpjpophaaGreatDoor
