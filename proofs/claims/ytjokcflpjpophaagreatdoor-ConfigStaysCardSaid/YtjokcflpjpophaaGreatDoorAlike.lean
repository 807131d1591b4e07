/- The functions that say whether a line is alike one that stands already. Conditions: what they captured is there. -/
import Derived.Test.YtjokcflpjpophaaGreatDoorFindH
namespace Go.Proofs.YtjokcflpjpophaaGreatDoor
open Go.RowKit
attribute [local go_sem ↓] Go.wp_at_zero Go.wp_at_succ

theorem data_beq (a b : ByteArray) : (a.toList == b.toList) = decide (a.data = b.data) := by
  rw [Bool.eq_iff_iff, beq_iff_eq, decide_eq_true_iff, ByteArray.toList_eq, ByteArray.toList_eq]
  exact ⟨fun h => Array.ext' h, fun h => by rw [h]⟩

set_option maxRecDepth 100000 in
theorem backend1_calls (x : BackL) (bb : Nat) (nm : ByteArray) (w : World) (hb : bb < w.heap.size) (hc : w.cell? ⟨bb, 0, none⟩ = some (.string nm)) :
    Calls Tryz.prog 67 #[backAgg x, .pointer (some ⟨bb, 0, none⟩)] w fun e w' => e = .returned (.bool (decide (x.name.data = nm.data))) ∧ Below w.heap.size w w' := by
  rw [← data_beq]
  unfold backAgg
  go_enter Tryz.func67, Tryz.ntmps67
  go_wp2
  go_ret
  exact ⟨rfl, (Below.refl _ w).alloc (Nat.le_refl _) _⟩

set_option maxRecDepth 100000 in
set_option maxHeartbeats 2000000 in
theorem host1_calls (x : HostV) (hb : Nat) (nm : ByteArray) (w : World) (h1 : x.1.name.size ≤ 140737488351240) (h2 : nm.size ≤ 140737488351240) (hlt : hb < w.heap.size) (hc : w.cell? ⟨hb, 0, none⟩ = some (.string nm)) :
    Calls Tryz.prog 64 #[hostAgg x, .pointer (some ⟨hb, 0, none⟩)] w fun e w' => e = .returned (.bool (decide (lowB x.1.name = lowB nm))) ∧ Below w.heap.size w w' := by
  have hd : decide (lowB x.1.name = lowB nm) = (List.map low x.1.name.data.toList == List.map low nm.data.toList) := by
    rw [Bool.eq_iff_iff, decide_eq_true_iff, beq_iff_eq]
    exact Iff.rfl
  rw [hd]
  clear hd
  unfold hostAgg
  go_enter Tryz.func64, Tryz.ntmps64
  go_wp2_with fail
  obtain ⟨W0, hW0⟩ : ∃ W, w.alloc (.cells #[.string x.1.name, .string x.1.cert, .string x.1.key, .string x.1.staple, x.2] 72) = W := ⟨_, rfl⟩
  have B0 : Below w.heap.size w W0 := by rw [← hW0]; exact (Below.refl _ w).alloc (Nat.le_refl _) _
  have r0 : Blk W0 w.heap.size #[.string x.1.name, .string x.1.cert, .string x.1.key, .string x.1.staple, x.2] 72 := by rw [← hW0]; exact Blk.new _ _ _
  have cA : W0.cell? ⟨w.heap.size, 0, none⟩ = some (.string x.1.name) := r0.cell 0
  have cB : W0.cell? ⟨hb, 0, none⟩ = some (.string nm) := (B0.cell (p := ⟨hb, 0, none⟩) hlt).trans hc
  have lA := r0.lt
  have lB : hb < W0.heap.size := Nat.lt_of_lt_of_le hlt B0.size
  rw [hW0]
  clear hW0 hc r0
  go_region_held3 (fun w' => w'.cell? ⟨w.heap.size, 0, none⟩ = some (.string x.1.name) ∧ w'.cell? ⟨hb, 0, none⟩ = some (.string nm)) (go_keep)
    (first
      | (go_at_call_of 65 (Value.string x.1.name); refine (clowered_calls x.1.name h1 _).mono ?_; rintro e w1 ⟨rfl, B1⟩; have dA := (B1.cell (p := ⟨w.heap.size, 0, none⟩) lA).trans cA; have dB := (B1.cell (p := ⟨hb, 0, none⟩) lB).trans cB; have mA := Nat.lt_of_lt_of_le lA B1.size; have mB := Nat.lt_of_lt_of_le lB B1.size)
      | (go_at_call_of 65 (Value.string nm); refine (clowered_calls nm h2 _).mono ?_; rintro e w2 ⟨rfl, B2⟩; have eA := (B2.cell (p := ⟨w.heap.size, 0, none⟩) mA).trans dA; have eB := (B2.cell (p := ⟨hb, 0, none⟩) mB).trans dB))
  have B12 := B0.drew.trans ((B1.trans (B2.mono B1.size)).mono B0.size)
  go_wp2
  go_ret
  exact ⟨rfl, B12⟩

set_option maxRecDepth 100000 in
set_option maxHeartbeats 4000000 in
theorem route1_calls (x : RouteL) (hb : Nat) (nm pr : ByteArray) (w : World) (h1 : x.host.size ≤ 140737488351240) (h2 : nm.size ≤ 140737488351240) (hlt : hb < w.heap.size) (hc : w.cell? ⟨hb, 0, none⟩ = some (.string nm)) (hc1 : w.cell? ⟨hb, 1, none⟩ = some (.string pr)) :
    Calls Tryz.prog 69 #[routeAgg x, .pointer (some ⟨hb, 0, none⟩)] w fun e w' => e = .returned (.bool (decide (lowB x.host = lowB nm) && decide (x.proto.data = pr.data))) ∧ Below w.heap.size w w' := by
  have hd : decide (lowB x.host = lowB nm) = (List.map low x.host.data.toList == List.map low nm.data.toList) := by
    rw [Bool.eq_iff_iff, decide_eq_true_iff, beq_iff_eq]
    exact Iff.rfl
  rw [hd, ← data_beq]
  clear hd
  unfold routeAgg
  go_enter Tryz.func69, Tryz.ntmps69
  go_wp2_with fail
  obtain ⟨W0, hW0⟩ : ∃ W, w.alloc (.cells #[.string x.host, .string x.proto, .string x.backend] 68) = W := ⟨_, rfl⟩
  have B0 : Below w.heap.size w W0 := by rw [← hW0]; exact (Below.refl _ w).alloc (Nat.le_refl _) _
  have r0 : Blk W0 w.heap.size #[.string x.host, .string x.proto, .string x.backend] 68 := by rw [← hW0]; exact Blk.new _ _ _
  have cA : W0.cell? ⟨w.heap.size, 0, none⟩ = some (.string x.host) := r0.cell 0
  have pA : W0.cell? ⟨w.heap.size, 1, none⟩ = some (.string x.proto) := r0.cell 1
  have cB : W0.cell? ⟨hb, 0, none⟩ = some (.string nm) := (B0.cell (p := ⟨hb, 0, none⟩) hlt).trans hc
  have pB : W0.cell? ⟨hb, 1, none⟩ = some (.string pr) := (B0.cell (p := ⟨hb, 1, none⟩) hlt).trans hc1
  have lA := r0.lt
  have lB : hb < W0.heap.size := Nat.lt_of_lt_of_le hlt B0.size
  rw [hW0]
  clear hW0 hc hc1 r0
  cases hbe : (List.map low x.host.data.toList == List.map low nm.data.toList) with
  | true =>
    go_region_held3 (fun w' => w'.cell? ⟨w.heap.size, 0, none⟩ = some (.string x.host) ∧ w'.cell? ⟨hb, 0, none⟩ = some (.string nm) ∧ w'.cell? ⟨w.heap.size, 1, none⟩ = some (.string x.proto) ∧ w'.cell? ⟨hb, 1, none⟩ = some (.string pr)) (go_keep)
      (first
        | (go_at_call_of 65 (Value.string x.host); refine (clowered_calls x.host h1 _).mono ?_; rintro e w1 ⟨rfl, B1⟩; have dA := (B1.cell (p := ⟨w.heap.size, 0, none⟩) lA).trans cA; have dB := (B1.cell (p := ⟨hb, 0, none⟩) lB).trans cB; have qA := (B1.cell (p := ⟨w.heap.size, 1, none⟩) lA).trans pA; have qB := (B1.cell (p := ⟨hb, 1, none⟩) lB).trans pB; have mA := Nat.lt_of_lt_of_le lA B1.size; have mB := Nat.lt_of_lt_of_le lB B1.size)
        | (go_at_call_of 65 (Value.string nm); refine (clowered_calls nm h2 _).mono ?_; rintro e w2 ⟨rfl, B2⟩; have eA := (B2.cell (p := ⟨w.heap.size, 0, none⟩) mA).trans dA; have eB := (B2.cell (p := ⟨hb, 0, none⟩) mB).trans dB; have tA := (B2.cell (p := ⟨w.heap.size, 1, none⟩) mA).trans qA; have tB := (B2.cell (p := ⟨hb, 1, none⟩) mB).trans qB))
    have B12 := B0.drew.trans ((B1.trans (B2.mono B1.size)).mono B0.size)
    go_wp2
    go_ret
    exact ⟨by rw [hbe, Bool.true_and]; rfl, B12⟩
  | false =>
    refine wp_region_held_drew (S := fun w' => w'.cell? ⟨w.heap.size, 0, none⟩ = some (.string x.host) ∧ w'.cell? ⟨hb, 0, none⟩ = some (.string nm)) (by kernel_rfl) ⟨cA, cB⟩ (fun hHeld => ?_)
    refine wpAnyH_take (i := 0) (v := ?v0_1) rfl (by kernel_rfl) (by kernel_rfl) (by kernel_rfl) (fun _ _ _ h => h) (Or.inl ⟨by kernel_rfl, ?y0_1⟩) hHeld ?r0_1
    case y0_1 =>
      rintro w' ⟨s0, s1⟩
      go_simp
      with_reducible rfl
    refine wpAnyH_take (i := 1) (v := ?v1_2) rfl (by kernel_rfl) (by kernel_rfl) (by kernel_rfl) (fun _ _ _ h => h) (Or.inl ⟨by kernel_rfl, ?y1_2⟩) hHeld ?r1_2
    case y1_2 =>
      rintro w' ⟨s0, s1⟩
      go_simp
      with_reducible rfl
    refine wpAnyH_take (i := 3) (v := ?v3_3) rfl (by kernel_rfl) (by kernel_rfl) (by kernel_rfl) (fun _ _ _ h => h) (Or.inl ⟨by kernel_rfl, ?y3_3⟩) hHeld ?r3_3
    case y3_3 =>
      rintro w' ⟨s0, s1⟩
      go_simp
      with_reducible rfl
    refine wpAnyH_take (i := 4) (v := ?v4_4) rfl (by kernel_rfl) (by kernel_rfl) (by kernel_rfl) (fun _ _ _ h => h) (Or.inl ⟨by kernel_rfl, ?y4_4⟩) hHeld ?r4_4
    case y4_4 =>
      rintro w' ⟨s0, s1⟩
      go_simp
      with_reducible rfl
    refine wpAnyH_ready (rs := [2]) (by kernel_rfl) (by simp) ?_
    refine AllReadyH.cons rfl (fun K hK => ?_) AllReadyH.nil
    go_simp
    refine (clowered_calls x.host h1 _).mono ?_
    rintro e w1 ⟨rfl, B1⟩
    have dA := (B1.cell (p := ⟨w.heap.size, 0, none⟩) lA).trans cA
    have dB := (B1.cell (p := ⟨hb, 0, none⟩) lB).trans cB
    have mA := Nat.lt_of_lt_of_le lA B1.size
    have mB := Nat.lt_of_lt_of_le lB B1.size
    dsimp only
    refine hK.out _ _ ⟨dA, dB⟩ (fun hHeld => ?_)
    refine wpAnyH_ready (rs := [5]) (by kernel_rfl) (by simp) ?_
    refine AllReadyH.cons rfl (fun K hK => ?_) AllReadyH.nil
    go_simp
    refine (clowered_calls nm h2 _).mono ?_
    rintro e w2 ⟨rfl, B2⟩
    have eA := (B2.cell (p := ⟨w.heap.size, 0, none⟩) mA).trans dA
    have eB := (B2.cell (p := ⟨hb, 0, none⟩) mB).trans dB
    dsimp only
    refine hK.out _ _ ⟨eA, eB⟩ (fun hHeld => ?_)
    refine wpAnyH_take (i := 6) (v := ?v6_5) rfl (by kernel_rfl) (by kernel_rfl) (by kernel_rfl) (fun _ _ _ h => h) (Or.inl ⟨by kernel_rfl, ?y6_5⟩) hHeld ?r6_5
    case y6_5 =>
      rintro w' ⟨s0, s1⟩
      go_simp
      with_reducible rfl
    refine wpAnyH_take (i := 7) (v := ?v7_6) rfl (by kernel_rfl) (by kernel_rfl) (by kernel_rfl) (fun _ _ _ h => h) (Or.inl ⟨by kernel_rfl, ?y7_6⟩) hHeld ?r7_6
    case y7_6 =>
      rintro w' ⟨s0, s1⟩
      go_simp
      with_reducible rfl
    refine wpAnyH_take (i := 8) rfl (by kernel_rfl) (by kernel_rfl) (by kernel_rfl) (fun _ _ _ h => h) (Or.inr ⟨by kernel_rfl, rfl⟩) hHeld ?_
    refine wpAnyH_take (i := 9) rfl (by kernel_rfl) (by kernel_rfl) (by kernel_rfl) (fun _ _ _ h => h) (Or.inr ⟨by kernel_rfl, rfl⟩) hHeld ?_
    refine wpAnyH_take (i := 10) rfl (by kernel_rfl) (by kernel_rfl) (by kernel_rfl) (fun _ _ _ h => h) (Or.inr ⟨by kernel_rfl, rfl⟩) hHeld ?_
    refine wpAnyH_take (i := 11) rfl (by kernel_rfl) (by kernel_rfl) (by kernel_rfl) (fun _ _ _ h => h) (Or.inr ⟨by kernel_rfl, rfl⟩) hHeld ?_
    refine wpAnyH_take (i := 12) rfl (by kernel_rfl) (by kernel_rfl) (by kernel_rfl) (fun _ _ _ h => h) (Or.inr ⟨by kernel_rfl, rfl⟩) hHeld ?_
    refine wpAnyH_take (i := 13) (v := ?v13_7) rfl (by kernel_rfl) (by kernel_rfl) (by kernel_rfl) (fun _ _ _ h => h) (Or.inl ⟨by kernel_rfl, ?y13_7⟩) hHeld ?r13_7
    case y13_7 =>
      rintro w' ⟨s0, s1⟩
      go_simp
      with_reducible rfl
    refine wpAnyH_take (i := 14) (v := ?v14_8) rfl (by kernel_rfl) (by kernel_rfl) (by kernel_rfl) (fun _ _ _ h => h) (Or.inl ⟨by kernel_rfl, ?y14_8⟩) hHeld ?r14_8
    case y14_8 =>
      rintro w' ⟨s0, s1⟩
      go_simp
      with_reducible rfl
    refine wpAnyH_done (by kernel_rfl) ?_ _
    have B12 := B0.drew.trans ((B1.trans (B2.mono B1.size)).mono B0.size)
    go_wp2
    go_ret
    exact ⟨by rw [hbe, Bool.false_and]; kernel_rfl, B12⟩
end Go.Proofs.YtjokcflpjpophaaGreatDoor
