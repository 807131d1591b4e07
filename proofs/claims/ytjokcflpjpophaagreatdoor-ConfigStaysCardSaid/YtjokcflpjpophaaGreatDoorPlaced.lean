/- config.placed, and the closure of Parse that asks for a route's backend. Conditions: the reader's block and its list of backends are there. -/
import Derived.Test.YtjokcflpjpophaaGreatDoorSaidAll
namespace Go.Proofs.YtjokcflpjpophaaGreatDoor
open Go.RowKit
attribute [local go_sem ↓] Go.wp_at_zero Go.wp_at_succ

/-- The cells of a conf whose three lists show their shape. -/
def confS (st : St) (A1 : Option Addr) (n1 c1 : Nat) (A2 : Option Addr) (n2 c2 : Nat) (A3 : Option Addr) (n3 c3 : Nat) : Array Value := #[.int .i64 (st 0).a, .int .i64 (st 1).a, .int .i64 (st 5).a, .int .i64 (st 5).b, .int .i64 (st 2).a, .int .i64 (st 3).a, .int .i64 (st 4).a, .string (st 6).t, .int .i64 (st 6).a, .int .i64 (st 6).b, .string (st 7).t, .bool (st 7).m, .slice A1 n1 c1, .slice A2 n2 c2, .slice A3 n3 c3]

set_option maxRecDepth 100000 in
theorem placed1_calls (x : BackL) (bb : Nat) (nm : ByteArray) (w : World) (hb : bb < w.heap.size) (hc : w.cell? ⟨bb, 0, none⟩ = some (.string nm)) :
    Calls Tryz.prog 49 #[backAgg x, .pointer (some ⟨bb, 0, none⟩)] w fun e w' => e = .returned (.bool (decide (x.name.data = nm.data))) ∧ Below w.heap.size w w' := by
  rw [← data_beq]
  unfold backAgg
  go_enter Tryz.func49, Tryz.ntmps49
  go_wp2
  go_ret
  exact ⟨rfl, (Below.refl _ w).alloc (Nat.le_refl _) _⟩

/-- The backends of a list in memory. -/
def BacksAt (w : World) (A : Option Addr) (bs : List BackL) : Prop := 0 < bs.length → ∃ g, A = some ⟨g, 0, none⟩ ∧ g < w.heap.size ∧ BackAt w g bs
theorem BacksAt.below {w w' : World} {A : Option Addr} {bs : List BackL} (h : BacksAt w A bs) (hb : Below w.heap.size w w') : BacksAt w' A bs := fun hp => by
  obtain ⟨g, e, hg, hc⟩ := h hp
  refine ⟨g, e, Nat.lt_of_lt_of_le hg hb.size, fun i hi => ?_⟩
  obtain ⟨c0, c1, c2, c3⟩ := hc i hi
  exact ⟨(hb.cell (p := ⟨g, i * 4, none⟩) hg).trans c0, (hb.cell (p := ⟨g, i * 4 + 1, none⟩) hg).trans c1, (hb.cell (p := ⟨g, i * 4 + 2, none⟩) hg).trans c2, (hb.cell (p := ⟨g, i * 4 + 3, none⟩) hg).trans c3⟩

set_option maxRecDepth 100000 in
set_option maxHeartbeats 1000000 in
theorem placed_calls (st : St) (A1 : Option Addr) (n1 c1 : Nat) (A2 : Option Addr) (c2 : Nat) (A3 : Option Addr) (n3 c3 : Nat) (bs : List BackL) (nm : ByteArray) (w : World) (hn : bs.length ≤ 1000) (hA : BacksAt w A2 bs) :
    Calls Tryz.prog 19 #[.agg (confS st A1 n1 c1 A2 bs.length c2 A3 n3 c3), .string nm] w fun e w' => e = .returned (.int .i64 (placeP (fun b => decide (b.name.data = nm.data)) bs)) ∧ Below w.heap.size w w' := by
  have hmf : ∀ (fn : Fn) (first cap : Array Value) (w : World), (Instr.makeFunc fn first cap).run Tryz.prog w = .ok (.func fn first cap) w := fun _ _ _ _ => rfl
  obtain ⟨W0, hW0⟩ : ∃ W, (w.alloc (.cells (confS st A1 n1 c1 A2 bs.length c2 A3 n3 c3) 28)).alloc (.cells #[.string nm] 9) = W := ⟨_, rfl⟩
  have B0 : Below w.heap.size w W0 := by rw [← hW0]; exact ((Below.refl _ w).alloc (Nat.le_refl _) _).alloc (by simp) _
  have r0 : Blk W0 (w.heap.size + 1) #[.string nm] 9 := by
    have := Blk.new (w.alloc (.cells (confS st A1 n1 c1 A2 bs.length c2 A3 n3 c3) 28)) #[.string nm] 9
    rw [hW0] at this
    simpa only [World.size_alloc] using this
  have hI := indexB_calls A2 c2 bs 49 ⟨w.heap.size + 1, 0, none⟩ (fun b => decide (b.name.data = nm.data)) W0 hn (hA.below B0) (enters_of Tryz.func49 (by kernel_rfl) rfl)
    (fun V b hV _ => placed1_calls b _ nm V (Nat.lt_of_lt_of_le r0.lt hV.size) ((hV.cell (p := ⟨w.heap.size + 1, 0, none⟩) r0.lt).trans (r0.cell 0)))
  have HI := Lib.hid hI
  have HW := Lib.hid (And.intro hW0 B0)
  clear hI hA hW0 B0 r0
  unfold confS at HW ⊢
  go_enter Tryz.func19, Tryz.ntmps19
  go_wp2_with fail
  rw [HW.out.1]
  refine HI.out.mono ?_
  rintro e w1 ⟨rfl, B1⟩
  dsimp only
  go_wp2
  go_ret
  exact ⟨rfl, HW.out.2.trans (B1.mono HW.out.2.size)⟩

theorem lost_is (p : BackL → Bool) (bs : List BackL) : decide (placeP p bs < 0) = !bs.any p := by
  rw [← placeP_any]
  by_cases h : placeP p bs < 0
  · rw [decide_eq_true h, decide_eq_false (by omega)]; rfl
  · rw [decide_eq_false h, decide_eq_true (by omega)]; rfl

set_option maxRecDepth 100000 in
set_option maxHeartbeats 2000000 in
theorem Parse1_calls (st : St) (A1 : Option Addr) (n1 c1 : Nat) (A2 : Option Addr) (c2 : Nat) (A3 : Option Addr) (n3 c3 sm : Nat) (bs : List BackL) (x : RouteL) (rc rb : Nat) (w : World) (hn : bs.length ≤ 1000) (hA : BacksAt w A2 bs)
    (hc : w.cell? ⟨rc, 0, none⟩ = some (.pointer (some ⟨rb, 0, none⟩))) (hrc : rc < w.heap.size) (hR : Blk w rb (confC st (.slice A1 n1 c1) (.slice A2 bs.length c2) (.slice A3 n3 c3) sm) 59) :
    Calls Tryz.prog 18 #[routeAgg x, .pointer (some ⟨rc, 0, none⟩)] w fun e w' => e = .returned (.bool (!bs.any fun b => decide (b.name.data = x.backend.data))) ∧ Below w.heap.size w w' := by
  obtain ⟨W0, hW0⟩ : ∃ W, w.alloc (.cells #[.string x.host, .string x.proto, .string x.backend] 68) = W := ⟨_, rfl⟩
  have B0 : Below w.heap.size w W0 := by rw [← hW0]; exact (Below.refl _ w).alloc (Nat.le_refl _) _
  have r0 : Blk W0 w.heap.size #[.string x.host, .string x.proto, .string x.backend] 68 := by rw [← hW0]; exact Blk.new _ _ _
  have hR0 := hR.below B0 hR.lt
  have cA : W0.cell? ⟨w.heap.size, 2, none⟩ = some (.string x.backend) := r0.cell 2
  have cB : W0.cell? ⟨rc, 0, none⟩ = some (.pointer (some ⟨rb, 0, none⟩)) := (B0.cell (p := ⟨rc, 0, none⟩) hrc).trans hc
  have k := fun i => hR0.cell i
  have HP := Lib.hid (placed_calls st A1 n1 c1 A2 c2 A3 n3 c3 bs x.backend W0.drew hn ((hA.below B0).below ((Below.refl W0.heap.size W0).drew)))
  have HL := Lib.hid (lost_is (fun b => decide (b.name.data = x.backend.data)) bs)
  have HB := Lib.hid (And.intro B0 hW0)
  have lA := r0.lt
  have lB : rc < W0.heap.size := Nat.lt_of_lt_of_le hrc B0.size
  have lC : rb < W0.heap.size := hR0.lt
  clear B0 r0 hR0 hR hA hc hW0
  unfold confS at HP
  simp only [confC] at k
  unfold routeAgg
  go_enter Tryz.func18, Tryz.ntmps18
  go_wp2_with fail
  rw [HB.out.2]
  refine wp_region_held_drew (S := fun w' => w'.cell? ⟨rc, 0, none⟩ = some (.pointer (some ⟨rb, 0, none⟩)) ∧ w'.cell? ⟨w.heap.size, 2, none⟩ = some (.string x.backend) ∧ ∀ i : Nat, w'.cell? ⟨rb, i, none⟩ = ((#[.int .i64 (st 0).a, .int .i64 (st 1).a, .int .i64 (st 5).a, .int .i64 (st 5).b, .int .i64 (st 2).a, .int .i64 (st 3).a, .int .i64 (st 4).a, .string (st 6).t, .int .i64 (st 6).a, .int .i64 (st 6).b, .string (st 7).t, .bool (st 7).m, .slice A1 n1 c1, .slice A2 bs.length c2, .slice A3 n3 c3, .map (some sm)] : Array Value))[i]?) (by kernel_rfl) ⟨cB, cA, k⟩ (fun hHeld => ?_)
  refine wpAnyH_take (i := 0) (v := ?v0_1) rfl (by kernel_rfl) (by kernel_rfl) (by kernel_rfl) (fun _ _ _ h => h) (Or.inl ⟨by kernel_rfl, ?y0_1⟩) hHeld ?r0_1
  case y0_1 =>
    rintro w' ⟨s0, s1, s2⟩
    go_simp
    with_reducible rfl
  refine wpAnyH_take (i := 1) (v := ?v1_2) rfl (by kernel_rfl) (by kernel_rfl) (by kernel_rfl) (fun _ _ _ h => h) (Or.inl ⟨by kernel_rfl, ?y1_2⟩) hHeld ?r1_2
  case y1_2 =>
    rintro w' ⟨s0, s1, s2⟩
    go_simp
    with_reducible rfl
  refine wpAnyH_take (i := 2) (v := ?v2_3) rfl (by kernel_rfl) (by kernel_rfl) (by kernel_rfl) (fun _ _ _ h => h) (Or.inl ⟨by kernel_rfl, ?y2_3⟩) hHeld ?r2_3
  case y2_3 =>
    rintro w' ⟨s0, s1, s2⟩
    go_simp
    with_reducible rfl
  refine wpAnyH_take (i := 3) (v := ?v3_4) rfl (by kernel_rfl) (by kernel_rfl) (by kernel_rfl) (fun _ _ _ h => h) (Or.inl ⟨by kernel_rfl, ?y3_4⟩) hHeld ?r3_4
  case y3_4 =>
    rintro w' ⟨s0, s1, s2⟩
    go_simp
    with_reducible rfl
  refine wpAnyH_take (i := 4) (v := ?v4_5) rfl (by kernel_rfl) (by kernel_rfl) (by kernel_rfl) (fun _ _ _ h => h) (Or.inl ⟨by kernel_rfl, ?y4_5⟩) hHeld ?r4_5
  case y4_5 =>
    rintro w' ⟨s0, s1, s2⟩
    go_simp
    with_reducible rfl
  refine wpAnyH_take (i := 5) (v := ?v5_6) rfl (by kernel_rfl) (by kernel_rfl) (by kernel_rfl) (fun _ _ _ h => h) (Or.inl ⟨by kernel_rfl, ?y5_6⟩) hHeld ?r5_6
  case y5_6 =>
    rintro w' ⟨s0, s1, s2⟩
    go_simp
    with_reducible rfl
  refine wpAnyH_ready (rs := [6]) (by kernel_rfl) (by simp) ?_
  refine AllReadyH.cons rfl (fun K hK => ?_) AllReadyH.nil
  go_simp
  refine HP.out.mono ?_
  rintro e w1 ⟨rfl, B1⟩
  have hcs : w1.cell? ⟨rc, 0, none⟩ = some (.pointer (some ⟨rb, 0, none⟩)) ∧ w1.cell? ⟨w.heap.size, 2, none⟩ = some (.string x.backend) ∧ ∀ i : Nat, w1.cell? ⟨rb, i, none⟩ = ((#[.int .i64 (st 0).a, .int .i64 (st 1).a, .int .i64 (st 5).a, .int .i64 (st 5).b, .int .i64 (st 2).a, .int .i64 (st 3).a, .int .i64 (st 4).a, .string (st 6).t, .int .i64 (st 6).a, .int .i64 (st 6).b, .string (st 7).t, .bool (st 7).m, .slice A1 n1 c1, .slice A2 bs.length c2, .slice A3 n3 c3, .map (some sm)] : Array Value))[i]? := ⟨(B1.cell (p := ⟨rc, 0, none⟩) lB).trans cB, (B1.cell (p := ⟨w.heap.size, 2, none⟩) lA).trans cA, fun i => (B1.cell (p := ⟨rb, i, none⟩) lC).trans (k i)⟩
  dsimp only
  refine hK.out _ _ hcs (fun hHeld => ?_)
  refine wpAnyH_take (i := 7) (v := ?v7_7) rfl (by kernel_rfl) (by kernel_rfl) (by kernel_rfl) (fun _ _ _ h => h) (Or.inl ⟨by kernel_rfl, ?y7_7⟩) hHeld ?r7_7
  case y7_7 =>
    rintro w' ⟨s0, s1, s2⟩
    go_simp
    with_reducible rfl
  refine wpAnyH_take (i := 8) (v := ?v8_8) rfl (by kernel_rfl) (by kernel_rfl) (by kernel_rfl) (fun _ _ _ h => h) (Or.inl ⟨by kernel_rfl, ?y8_8⟩) hHeld ?r8_8
  case y8_8 =>
    rintro w' ⟨s0, s1, s2⟩
    go_simp
    with_reducible rfl
  refine wpAnyH_done (by kernel_rfl) ?_ _
  go_wp2
  go_ret
  rw [HL.out]
  exact ⟨rfl, HB.out.1.drew.trans (B1.mono HB.out.1.size)⟩
end Go.Proofs.YtjokcflpjpophaaGreatDoor
