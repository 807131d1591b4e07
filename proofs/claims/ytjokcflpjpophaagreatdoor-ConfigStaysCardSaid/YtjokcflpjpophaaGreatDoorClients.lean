/- The function that reads the line clients. Conditions: the reader's block, its map and the words are there. -/
import Derived.Test.YtjokcflpjpophaaGreatDoorTickets
namespace Go.Proofs.YtjokcflpjpophaaGreatDoor
open Go.RowKit
attribute [local go_sem ↓] Go.wp_at_zero Go.wp_at_succ

theorem list_is (s : ByteArray) (a : Array UInt8) : (s.toList == a.toList) = decide (s.data = a) := by
  rw [Bool.eq_iff_iff, beq_iff_eq, decide_eq_true_iff]
  exact (data_is s a).symm

set_option maxRecDepth 100000 in
set_option maxHeartbeats 4000000 in
theorem clients_calls (rb sm ww : Nat) (C : Array Value) (o10 o11 : Value) (x0 x1 x2 : ByteArray) (cap : Nat) (es : Array MapEntry) (clk : Nat) (w : World) (T : Stage w w rb sm ww C es clk [x0, x1, x2])
    (hx1 : x1.size ≤ 140737488351240) (hc10 : C[10]? = some o10) (hc11 : C[11]? = some o11) :
    Calls Tryz.prog 37 #[.pointer (some ⟨rb, 0, none⟩), .slice (some ⟨ww, 0, none⟩) 3 cap] w fun e w' =>
      SaysR w w' rb sm es clk x0 e (nameE (ofV fileL x1) (.ok ((C.setIfInBounds 10 (.string x1)).setIfInBounds 11 (.bool (decide (x2.data = #[109, 117, 115, 116])))))) := by
  have g1 := T.words 1 x1 rfl
  have g2 := T.words 2 x2 rfl
  have TD := T.drew
  have HF := Lib.hid (file_calls x1 hx1 w.drew TD.L)
  have HT := Lib.hid TD
  have HC := Lib.hid (And.intro hc10 hc11)
  have n1 : ¬ ww = rb := T.ne1
  have n1' : ¬ rb = ww := fun e => n1 e.symm
  obtain ⟨b, hb⟩ : ∃ b, decide (x2.data = #[109, 117, 115, 116]) = b := ⟨_, rfl⟩
  have hbe : (x2.toList == [109, 117, 115, 116]) = b := by rw [← hb]; exact list_is x2 #[109, 117, 115, 116]
  rw [hb]
  clear T TD hc10 hc11 hb
  go_enter Tryz.func37, Tryz.ntmps37
  go_wp2_with fail
  cases hv : ofV fileL x1 with
  | false =>
    rw [hv] at HF
    have HP := Lib.hid (HF.out.mono (R' := fun e w' => Ends w.drew w' e (nameR false x1) ∨ (Hid False ∧ e = .returned (.string x1))) fun e w' h => .inl h)
    go_region_held2 (fun w' => w'.cell? ⟨ww, 1, none⟩ = some (.string x1) ∧ w'.cell? ⟨ww, 2, none⟩ = some (.string x2)) (go_keep)
      (first
        | (go_at_call 35; refine HP.out.mono ?_; rintro e w1 (⟨B1, rfl⟩ | ⟨hF, rfl⟩); (exact ⟨rfl, (HT.out.below B1).gave rfl (by rw [hv]; rfl)⟩); have e0 : w1.cell? ⟨ww, 1, none⟩ = some (.string x1) := hF.out.elim; have e1 : w1.cell? ⟨ww, 2, none⟩ = some (.string x2) := hF.out.elim; have c0 : w1.cell? ⟨rb, 10, none⟩ = some (.int .i64 0) := hF.out.elim; have f0 : w1.frozen? ⟨rb, 10, none⟩ = false := hF.out.elim; have c1 : w1.cell? ⟨rb, 11, none⟩ = some (.int .i64 0) := hF.out.elim; have f1 : w1.frozen? ⟨rb, 11, none⟩ = false := hF.out.elim; dsimp only))
    all_goals exact hF.out.elim
  | true =>
    rw [hv] at HF
    go_region_held3 (fun w' => w'.cell? ⟨ww, 1, none⟩ = some (.string x1) ∧ w'.cell? ⟨ww, 2, none⟩ = some (.string x2)) (go_keep)
      (first
        | (go_at_call 35; refine HF.out.mono ?_; rintro e w1 ⟨B1, rfl⟩; have T1 := HT.out.below B1; have H1 := Lib.hid T1; have e0 := T1.words 1 x1 rfl; have e1 := T1.words 2 x2 rfl; have c0 := (T1.R.cell 10).trans HC.out.1; have f0 := T1.R.free 10; have c1 := (T1.R.cell 11).trans HC.out.2; have f1 := T1.R.free 11; clear T1; dsimp only [nameR_ok]))
    have T3 := (H1.out.set 10 (by decide) (.string x1)).set 11 (by decide) (.bool b)
    have k6 := T3.words 0 x0 rfl
    have HO := Lib.hid (T3.once x0)
    clear T3
    go_wp2_with fail
    refine HO.out.mono ?_
    rintro e w4 ⟨hS, ⟨hy, rfl⟩ | ⟨hy, rfl, hb, hm2⟩⟩
    · exact ⟨rfl, hS, by rw [hv]; exact .inl ⟨hy, rfl⟩⟩
    · dsimp only
      go_wp2
      go_end0
      exact ⟨hS, by rw [hv]; exact .inr ⟨hy, rfl, hb, hm2⟩⟩
end Go.Proofs.YtjokcflpjpophaaGreatDoor
