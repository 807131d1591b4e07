/- (reader).route: a line of a route. Conditions: the reader's block, its map, its list of routes and the words are there. -/
import Derived.Test.YtjokcflpjpophaaGreatDoorBackend
namespace Go.Proofs.YtjokcflpjpophaaGreatDoor
open Go.RowKit
attribute [local go_sem ↓] Go.wp_at_zero Go.wp_at_succ

/-- How a line ends that stands behind the list of routes. -/
def RowR (w w' : World) (B rb sm : Nat) (bv : Value) (C : Array Value) (es : Array MapEntry) (clk : Nat) (e : Ending) (r : Except Int (List RouteL)) : Prop :=
  Same (fun b => b = rb ∨ b = sm ∨ bv.ownBlock = some b) w w' ∧ match r with
    | .error k => e = .panicked [{ v := .iface 29 (.int .i64 k), recovered := false }]
    | .ok l => e = .returned (.tuple #[]) ∧ ∃ v', Blk w' rb (C.setIfInBounds 14 v') 59 ∧ w'.heap[sm]? = some (.map es clk) ∧ w'.ownsRow B 68 3 v' l.length (l.flatMap routeCells)

set_option maxRecDepth 100000 in
set_option maxHeartbeats 4000000 in
theorem route_calls (B rb sm ww : Nat) (C : Array Value) (bv : Value) (bs : List RouteL) (x0 x1 x2 x3 : ByteArray) (cap : Nat) (es : Array MapEntry) (clk : Nat) (w : World) (T : Stage w w rb sm ww C es clk [x0, x1, x2, x3])
    (hx1 : x1.size ≤ 140737488351240) (hx2 : x2.size ≤ 140737488351240) (hx3 : x3.size ≤ 140737488351240) (hC : C[14]? = some bv) (hB : B ≤ w.heap.size)
    (hown : w.ownsRow B 68 3 bv bs.length (bs.flatMap routeCells)) (hn : bs.length ≤ 16) (hsz : ∀ x ∈ bs, x.host.size ≤ 140737488351240) :
    Calls Tryz.prog 41 #[.pointer (some ⟨rb, 0, none⟩), .slice (some ⟨ww, 0, none⟩) 4 cap] w fun e w' =>
      RowR w w' B rb sm bv C es clk e (nameE (patV x1) (nameE (decide (x2.data = #[42]) || protoV x2) (nameE (ofV smallL x3) (putE bs { host := x1, proto := x2, backend := x3 } (fun x => decide (lowB x.host = lowB x1) && decide (x.proto.data = x2.data)) id)))) := by
  have g1 := T.words 1 x1 rfl
  have g2 := T.words 2 x2 rfl
  have TD := T.drew
  have HF := Lib.hid (pattern_calls x1 hx1 w.drew)
  have HT := Lib.hid (And.intro T TD)
  have HO := Lib.hid (And.intro hown (And.intro hC hsz))
  have h8 := T.L.size
  have hrlt0 := T.rlt
  have hmlt0 := T.mlt
  have hwlt0 := T.wlt
  clear T hown hC hsz
  go_enter Tryz.func41, Tryz.ntmps41
  go_wp2_with fail
  go_cut [4] from 5 (fun pv W => ∃ bb, pv = .pointer (some ⟨bb, 0, none⟩) ∧ patV x1 = true ∧ w.heap.size ≤ bb ∧ Stage w W rb sm ww C es clk [x0, x1, x2, x3] ∧ Blk W bb #[.string x1, .string x2, .string ⟨#[]⟩] 68)
  case first =>
    go_wp2_with fail
    cases hv : patV x1 with
    | false =>
      rw [hv] at HF
      refine wp_region_held_drew (S := fun w' => w'.cell? ⟨ww, 1, none⟩ = some (.string x1) ∧ w'.cell? ⟨ww, 2, none⟩ = some (.string x2)) (by kernel_rfl) ⟨g1, g2⟩ (fun hHeld => ?_)
      refine wpAnyH_take (i := 0) (v := ?v0_1) rfl (by kernel_rfl) (by kernel_rfl) (by kernel_rfl) (fun _ _ _ h => h) (Or.inl ⟨by kernel_rfl, ?y0_1⟩) hHeld ?r0_1
      case y0_1 =>
        rintro w' ⟨s0, s1⟩
        go_simp
        with_reducible rfl
      refine wpAnyH_take (i := 1) (v := ?v1_2) rfl (by kernel_rfl) (by kernel_rfl) (by kernel_rfl) (fun _ _ _ h => h) (Or.inl ⟨by kernel_rfl, ?y1_2⟩) hHeld ?r1_2
      case y1_2 =>
        rintro w' ⟨s0, s1⟩
        go_simp
        with_reducible rfl
      refine wpAnyH_take (i := 2) (v := ?v2_3) rfl (by kernel_rfl) (by kernel_rfl) (by kernel_rfl) (fun _ _ _ h => h) (Or.inl ⟨by kernel_rfl, ?y2_3⟩) hHeld ?r2_3
      case y2_3 =>
        rintro w' ⟨s0, s1⟩
        go_simp
        with_reducible rfl
      refine wpAnyH_take (i := 4) (v := ?v4_4) rfl (by kernel_rfl) (by kernel_rfl) (by kernel_rfl) (fun _ _ _ h => h) (Or.inl ⟨by kernel_rfl, ?y4_4⟩) hHeld ?r4_4
      case y4_4 =>
        rintro w' ⟨s0, s1⟩
        go_simp
        with_reducible rfl
      refine wpAnyH_take (i := 5) (v := ?v5_5) rfl (by kernel_rfl) (by kernel_rfl) (by kernel_rfl) (fun _ _ _ h => h) (Or.inl ⟨by kernel_rfl, ?y5_5⟩) hHeld ?r5_5
      case y5_5 =>
        rintro w' ⟨s0, s1⟩
        go_simp
        with_reducible rfl
      refine wpAnyH_take (i := 6) (v := ?v6_6) rfl (by kernel_rfl) (by kernel_rfl) (by kernel_rfl) (fun _ _ _ h => h) (Or.inl ⟨by kernel_rfl, ?y6_6⟩) hHeld ?r6_6
      case y6_6 =>
        rintro w' ⟨s0, s1⟩
        go_simp
        with_reducible rfl
      refine wpAnyH_ready (rs := [3, 8]) (by kernel_rfl) (by simp) ?_
      refine AllReadyH.cons rfl (fun K hK => ?_) ?_
      · go_simp
        refine (HF.out).mono ?_
        rintro e w1 ⟨B1, rfl⟩
        exact ⟨rfl, same3 ((HT.out.2).below B1).S, by rw [hv]; rfl⟩
      refine AllReadyH.cons rfl (fun K hK => ?_) AllReadyH.nil
      have T2 := HT.out.2.below ((Below.refl w.drew.heap.size w.drew).alloc (Nat.le_refl _) (.cells #[.string ⟨#[]⟩, .string ⟨#[]⟩, .string ⟨#[]⟩] 68))
      have b1 := T2.words 1 x1 rfl
      have b2 := T2.words 2 x2 rfl
      have HF2 := Lib.hid (pattern_calls x1 hx1 (w.drew.alloc (.cells #[.string ⟨#[]⟩, .string ⟨#[]⟩, .string ⟨#[]⟩] 68)))
      have H2 := Lib.hid T2
      clear T2
      rw [hv] at HF2
      go_simp
      refine hK.out _ _ ⟨b1, b2⟩ (fun hHeld => ?_)
      refine wpAnyH_ready (rs := [3]) (by kernel_rfl) (by simp) ?_
      refine AllReadyH.cons rfl (fun K hK => ?_) AllReadyH.nil
      go_simp
      refine (HF2.out).mono ?_
      rintro e w1 ⟨B1, rfl⟩
      exact ⟨rfl, same3 ((H2.out).below B1).S, by rw [hv]; rfl⟩
    | true =>
      rw [hv] at HF
      refine wp_region_held_drew (S := fun w' => w'.cell? ⟨ww, 1, none⟩ = some (.string x1) ∧ w'.cell? ⟨ww, 2, none⟩ = some (.string x2)) (by kernel_rfl) ⟨g1, g2⟩ (fun hHeld => ?_)
      refine wpAnyH_take (i := 0) (v := ?v0_7) rfl (by kernel_rfl) (by kernel_rfl) (by kernel_rfl) (fun _ _ _ h => h) (Or.inl ⟨by kernel_rfl, ?y0_7⟩) hHeld ?r0_7
      case y0_7 =>
        rintro w' ⟨s0, s1⟩
        go_simp
        with_reducible rfl
      refine wpAnyH_take (i := 1) (v := ?v1_8) rfl (by kernel_rfl) (by kernel_rfl) (by kernel_rfl) (fun _ _ _ h => h) (Or.inl ⟨by kernel_rfl, ?y1_8⟩) hHeld ?r1_8
      case y1_8 =>
        rintro w' ⟨s0, s1⟩
        go_simp
        with_reducible rfl
      refine wpAnyH_take (i := 2) (v := ?v2_9) rfl (by kernel_rfl) (by kernel_rfl) (by kernel_rfl) (fun _ _ _ h => h) (Or.inl ⟨by kernel_rfl, ?y2_9⟩) hHeld ?r2_9
      case y2_9 =>
        rintro w' ⟨s0, s1⟩
        go_simp
        with_reducible rfl
      refine wpAnyH_take (i := 4) (v := ?v4_10) rfl (by kernel_rfl) (by kernel_rfl) (by kernel_rfl) (fun _ _ _ h => h) (Or.inl ⟨by kernel_rfl, ?y4_10⟩) hHeld ?r4_10
      case y4_10 =>
        rintro w' ⟨s0, s1⟩
        go_simp
        with_reducible rfl
      refine wpAnyH_take (i := 5) (v := ?v5_11) rfl (by kernel_rfl) (by kernel_rfl) (by kernel_rfl) (fun _ _ _ h => h) (Or.inl ⟨by kernel_rfl, ?y5_11⟩) hHeld ?r5_11
      case y5_11 =>
        rintro w' ⟨s0, s1⟩
        go_simp
        with_reducible rfl
      refine wpAnyH_take (i := 6) (v := ?v6_12) rfl (by kernel_rfl) (by kernel_rfl) (by kernel_rfl) (fun _ _ _ h => h) (Or.inl ⟨by kernel_rfl, ?y6_12⟩) hHeld ?r6_12
      case y6_12 =>
        rintro w' ⟨s0, s1⟩
        go_simp
        with_reducible rfl
      refine wpAnyH_ready (rs := [3, 8]) (by kernel_rfl) (by simp) ?_
      refine AllReadyH.cons rfl (fun K hK => ?_) ?_
      · go_simp
        refine (HF.out).mono ?_
        rintro e w1 ⟨B1, rfl⟩
        have T1 := HT.out.2.below B1
        have a1 := T1.words 1 x1 rfl
        have a2 := T1.words 2 x2 rfl
        have n1 : ¬ ww = w1.heap.size := fun e => by have := T1.wlt; omega
        have H1 := Lib.hid T1
        clear T1
        dsimp only [nameR_ok]
        refine hK.out _ _ ⟨a1, a2⟩ (fun hHeld => ?_)
        refine wpAnyH_take (i := 7) (v := ?v7_13) rfl (by kernel_rfl) (by kernel_rfl) (by kernel_rfl) (fun _ _ _ h => h) (Or.inl ⟨by kernel_rfl, ?y7_13⟩) hHeld ?r7_13
        case y7_13 =>
          rintro w' ⟨s0, s1⟩
          go_simp
          with_reducible rfl
        have T2 := H1.out.below ((Below.refl w1.heap.size w1).alloc (Nat.le_refl _) (.cells #[.string ⟨#[]⟩, .string ⟨#[]⟩, .string ⟨#[]⟩] 68))
        have b1 := T2.words 1 x1 rfl
        have b2 := T2.words 2 x2 rfl
        have H2 := Lib.hid T2
        clear T2
        refine wpAnyH_ready (rs := [8]) (by kernel_rfl) (by simp) ?_
        refine AllReadyH.cons rfl (fun K hK => ?_) AllReadyH.nil
        go_simp
        refine hK.out _ _ ⟨b1, b2⟩ (fun hHeld => ?_)
        refine wpAnyH_ready (rs := [9]) (by kernel_rfl) (by simp) ?_
        refine AllReadyH.cons rfl (fun K hK => ?_) AllReadyH.nil
        go_simp
        have T3 := H1.out.below ((Below.refl w1.heap.size w1).alloc (Nat.le_refl _) (.cells #[.string x1, .string x2, .string ⟨#[]⟩] 68))
        have q3 : Blk (w1.alloc (.cells #[.string x1, .string x2, .string ⟨#[]⟩] 68)) w1.heap.size #[.string x1, .string x2, .string ⟨#[]⟩] 68 := Blk.new _ _ _
        refine hK.out _ _ ⟨T3.words 1 x1 rfl, T3.words 2 x2 rfl⟩ (fun hHeld => ?_)
        refine wpAnyH_done (by kernel_rfl) ?_ _
        have H4 := Lib.hid (And.intro T3 q3)
        clear T3 q3
        go_wp2
        all_goals go_meet
        exact ⟨w1.heap.size, rfl, hv, H1.out.S.size, H4.out.1, H4.out.2⟩
      refine AllReadyH.cons rfl (fun K hK => ?_) AllReadyH.nil
      have T2 := HT.out.2.below ((Below.refl w.drew.heap.size w.drew).alloc (Nat.le_refl _) (.cells #[.string ⟨#[]⟩, .string ⟨#[]⟩, .string ⟨#[]⟩] 68))
      have b1 := T2.words 1 x1 rfl
      have b2 := T2.words 2 x2 rfl
      have HF2 := Lib.hid (pattern_calls x1 hx1 (w.drew.alloc (.cells #[.string ⟨#[]⟩, .string ⟨#[]⟩, .string ⟨#[]⟩] 68)))
      have H2 := Lib.hid T2
      clear T2
      rw [hv] at HF2
      go_simp
      refine hK.out _ _ ⟨b1, b2⟩ (fun hHeld => ?_)
      refine wpAnyH_ready (rs := [3]) (by kernel_rfl) (by simp) ?_
      refine AllReadyH.cons rfl (fun K hK => ?_) AllReadyH.nil
      go_simp
      refine (HF2.out).mono ?_
      rintro e w1 ⟨B1, rfl⟩
      have T3 := H2.out.below B1
      have q0 : Blk w1 w.heap.size #[.string ⟨#[]⟩, .string ⟨#[]⟩, .string ⟨#[]⟩] 68 := (Blk.new w.drew #[.string ⟨#[]⟩, .string ⟨#[]⟩, .string ⟨#[]⟩] 68).below B1 (by simp)
      have a1 := T3.words 1 x1 rfl
      have a2 := T3.words 2 x2 rfl
      have q00 := q0.cell 0
      have q01 := q0.cell 1
      have q02 := q0.cell 2
      have q10 := q0.free 0
      have q11 := q0.free 1
      have q12 := q0.free 2
      have H3 := Lib.hid (And.intro T3 q0)
      clear T3 q0
      dsimp only [nameR_ok]
      refine hK.out _ _ ⟨a1, a2⟩ (fun hHeld => ?_)
      refine wpAnyH_take (i := 7) (v := ?v7_14) rfl (by kernel_rfl) (by kernel_rfl) (by kernel_rfl) (fun _ _ _ h => h) (Or.inl ⟨by kernel_rfl, ?y7_14⟩) hHeld ?r7_14
      case y7_14 =>
        rintro w' ⟨s0, s1⟩
        go_simp
        with_reducible rfl
      refine wpAnyH_ready (rs := [9]) (by kernel_rfl) (by simp) ?_
      refine AllReadyH.cons rfl (fun K hK => ?_) AllReadyH.nil
      go_simp
      have e1 : w.heap.size ≠ rb := by omega
      have e2 : w.heap.size ≠ sm := by omega
      have e3 : w.heap.size ≠ ww := by omega
      have T4 := ((H3.out.1.other w.heap.size 0 (.string x1) h8 (Nat.le_refl _) e1 e2 e3).other w.heap.size 1 (.string x2) h8 (Nat.le_refl _) e1 e2 e3).other w.heap.size 2 (.string ⟨#[]⟩) h8 (Nat.le_refl _) e1 e2 e3
      have q4 := ((H3.out.2.set 0 (.string x1)).set 1 (.string x2)).set 2 (.string ⟨#[]⟩)
      refine hK.out _ _ ⟨T4.words 1 x1 rfl, T4.words 2 x2 rfl⟩ (fun hHeld => ?_)
      refine wpAnyH_done (by kernel_rfl) ?_ _
      have H4 := Lib.hid (And.intro T4 q4)
      clear T4 q4
      go_wp2
      all_goals go_meet
      exact ⟨w.heap.size, rfl, hv, Nat.le_refl _, H4.out.1, H4.out.2⟩
  case rest =>
    obtain ⟨bb, rfl, hv, hge, TW, QW⟩ := hcut
    have e1 : bb ≠ rb := by omega
    have e2 : bb ≠ sm := by omega
    have e3 : bb ≠ ww := by omega
    have k2 := TW.words 2 x2 rfl
    have H5 := Lib.hid (And.intro TW QW)
    have hWs := TW.S.size
    clear TW QW HF g1 g2
    obtain ⟨pz, hpz⟩ : ∃ z, (decide (x2.data = #[42]) || protoV x2) = z := ⟨_, rfl⟩
    have HZ := Lib.hid hpz
    clear hpz
    go_upto_if 16 with (fail)
    go_cut [] from 5 (fun W => pz = true ∧ Stage w W rb sm ww C es clk [x0, x1, x2, x3] ∧ Blk W bb #[.string x1, .string x2, .string ⟨#[]⟩] 68)
    case first =>
      by_cases h42 : x2.toList = [42]
      · have hz : pz = true := by rw [← HZ.out, decide_eq_true ((data_is x2 #[42]).2 h42)]; rfl
        have HZ2 := Lib.hid hz
        clear hz
        have hb42 : (x2.toList == [42]) = true := by simpa using h42
        rw [hb42, Bool.not_true]
        clear hb42 h42
        go_wp2
        all_goals go_meet
        exact ⟨HZ2.out, H5.out.1, H5.out.2⟩
      · have hz : pz = protoV x2 := by rw [← HZ.out, decide_eq_false (fun h => h42 ((data_is x2 #[42]).1 h))]; rfl
        have HZ2 := Lib.hid hz
        clear hz
        have hb42 : (x2.toList == [42]) = false := by simpa using h42
        rw [hb42, Bool.not_false]
        clear hb42 h42
        go_wp2_with fail
        refine (protocol_calls x2 hx2 _).mono ?_
        rintro e w5 ⟨B5, he⟩
        cases hp : protoV x2 with
        | false =>
          rw [hp] at he
          obtain rfl := he
          exact ⟨rfl, same3 (H5.out.1.below B5).S, by rw [hv, HZ.out, HZ2.out, hp]; rfl⟩
        | true =>
          rw [hp] at he
          obtain rfl := he
          dsimp only [nameR_ok]
          go_wp2
          all_goals go_meet
          exact ⟨HZ2.out.trans hp, H5.out.1.below B5, H5.out.2.below B5 H5.out.2.lt⟩
    case rest =>
      obtain ⟨hz, TX, QX⟩ := hcut
      have k3 := TX.words 3 x3 rfl
      have H6 := Lib.hid (And.intro TX QX)
      have HF3 := Lib.hid (of_calls x3 ⟨smallL.toArray⟩ hx3 (by decide) _ TX.L)
      clear TX QX H5 hWs k2
      go_wp2_with fail
      refine HF3.out.mono ?_
      rintro e w6 ⟨B6, he⟩
      have he : e = match nameR (ofV smallL x3) x3 with | .ok v => .returned v | .error k => .panicked [{ v := .iface 29 (.int .i64 k), recovered := false }] := he
      cases hv3 : ofV smallL x3 with
      | false =>
        rw [hv3] at he
        obtain rfl := he
        exact ⟨rfl, same3 (H6.out.1.below B6).S, by rw [hv, HZ.out, hz, hv3]; rfl⟩
      | true =>
        rw [hv3] at he
        obtain rfl := he
        have TY := H6.out.1.below B6
        have QY := H6.out.2.below B6 H6.out.2.lt
        have c2 := QY.cell 2
        have f2 := QY.free 2
        have T6 := TY.other bb 2 (.string x3) h8 hge e1 e2 e3
        have Q6 : Blk (w6.setCell ⟨bb, 2, none⟩ (.string x3)) bb #[.string x1, .string x2, .string x3] 68 := QY.set 2 (.string x3)
        obtain ⟨W5, hW5⟩ : ∃ W, w6.setCell ⟨bb, 2, none⟩ (.string x3) = W := ⟨_, rfl⟩
        rw [hW5] at T6 Q6
        have own5 := HT.out.1.own T6.S HO.out.1 (by decide)
        have T6d := T6.drew
        have Q6d := Q6.drew
        have r13 : W5.cell? ⟨rb, 14, none⟩ = some bv := (T6.R.cell 14).trans HO.out.2.1
        have b0 : W5.cell? ⟨bb, 0, none⟩ = some (.string x1) := Q6.cell 0
        have b1 : W5.cell? ⟨bb, 1, none⟩ = some (.string x2) := Q6.cell 1
        have b2 : W5.cell? ⟨bb, 2, none⟩ = some (.string x3) := Q6.cell 2
        have hblt : bb < W5.heap.size := Q6.lt
        have hsz5 : w.heap.size ≤ W5.heap.size := T6.S.size
        have hput := putR_calls B bv bs { host := x1, proto := x2, backend := x3 } 69 ⟨bb, 0, none⟩ (fun x => decide (lowB x.host = lowB x1) && decide (x.proto.data = x2.data)) W5.drew hn (by simp; omega) (own_below own5 ((Below.refl W5.heap.size W5).drew)) (enters_of Tryz.func69 (by kernel_rfl) rfl)
          (fun W b hb hm => route1_calls b bb x1 x2 W (HO.out.2.2 b hm) hx1 (Nat.lt_of_lt_of_le hblt hb.size) ((hb.cell (p := ⟨bb, 0, none⟩) hblt).trans b0) ((hb.cell (p := ⟨bb, 1, none⟩) hblt).trans b1))
        have HP := Lib.hid hput
        have no1 : ∀ g, bv.ownBlock = some g → g ≠ rb ∧ g ≠ sm ∧ g ≠ bb ∧ g < W5.heap.size := by
          intro g hg
          rcases HO.out.1.2 with ⟨h0, _⟩ | ⟨g', cap', cur, h0, _, hh, _⟩
          · rw [h0] at hg; cases hg
          · rw [h0] at hg
            simp only [Value.ownBlock, Option.some.injEq] at hg
            subst hg
            have hlt := (Array.getElem?_eq_some_iff.1 hh).1
            refine ⟨fun e => ?_, fun e => ?_, by omega, by omega⟩
            · subst e
              have := (show w.heap[g']? = _ from HT.out.1.R).symm.trans hh
              simp only [Option.some.injEq, Obj.cells.injEq] at this
              exact absurd this.2.1 (by decide)
            · subst e
              exact absurd (HT.out.1.M.symm.trans hh) (by simp)
        have HG := Lib.hid no1
        have H7 := Lib.hid (And.intro T6d Q6d)
        have hrlt := T6.rlt
        have hmlt := T6.mlt
        have e1' : ¬ rb = bb := fun e => e1 e.symm
        have HW := Lib.hid hW5
        clear T6 Q6 T6d Q6d hput no1 hW5 own5 TY QY H6 HF3 he
        have hmf : ∀ (fn : Fn) (first cap : Array Value) (w : World), (Instr.makeFunc fn first cap).run Tryz.prog w = .ok (.func fn first cap) w := fun _ _ _ _ => rfl
        dsimp only [nameR_ok]
        go_wp2_with fail
        rw [HW.out]
        cases hpe : putE bs { host := x1, proto := x2, backend := x3 } (fun x => decide (lowB x.host = lowB x1) && decide (x.proto.data = x2.data)) id with
        | error k =>
          rw [hpe] at HP
          refine wp_region_any (by kernel_rfl) ?_
          try (change wpAny _ _ _ _ _ _ _ (World.drew _))
          refine wpAny_take (i := 0) (v := ?v0_101) rfl (by kernel_rfl) (by kernel_rfl) (by kernel_rfl) (fun _ _ _ h => h) (Or.inl ⟨by kernel_rfl, ?y0_101⟩) ?r0_101
          case y0_101 =>
            intro w
            go_simp
            with_reducible rfl
          refine wpAny_take (i := 1) (v := ?v1_102) rfl (by kernel_rfl) (by kernel_rfl) (by kernel_rfl) (fun _ _ _ h => h) (Or.inl ⟨by kernel_rfl, ?y1_102⟩) ?r1_102
          case y1_102 =>
            intro w
            go_simp
            with_reducible rfl
          refine wpAny_take (i := 2) (v := ?v2_103) rfl (by kernel_rfl) (by kernel_rfl) (by kernel_rfl) (fun _ _ _ h => h) (Or.inl ⟨by kernel_rfl, ?y2_103⟩) ?r2_103
          case y2_103 =>
            intro w
            go_simp
            with_reducible rfl
          refine wpAny_take (i := 3) (v := ?v3_104) rfl (by kernel_rfl) (by kernel_rfl) (by kernel_rfl) (fun _ _ _ h => h) (Or.inl ⟨by kernel_rfl, ?y3_104⟩) ?r3_104
          case y3_104 =>
            intro w
            go_simp
            with_reducible rfl
          refine wpAny_take (i := 4) (v := ?v4_105) rfl (by kernel_rfl) (by kernel_rfl) (by kernel_rfl) (fun _ _ _ h => h) (Or.inl ⟨by kernel_rfl, ?y4_105⟩) ?r4_105
          case y4_105 =>
            intro w
            go_simp
            with_reducible rfl
          refine wpAny_take (i := 7) (v := ?v7_106) rfl (by kernel_rfl) (by kernel_rfl) (by kernel_rfl) (fun _ _ _ h => h) (Or.inl ⟨by kernel_rfl, ?y7_106⟩) ?r7_106
          case y7_106 =>
            intro w
            go_simp
            with_reducible rfl
          refine wpAny_ready (rs := [5, 6]) (by kernel_rfl) (by simp) ?_
          refine AllReady.cons rfl (fun K hK => ?_) ?_
          · go_simp
            refine hK _ _ ?_
            refine wpAny_ready (rs := [6]) (by kernel_rfl) (by simp) ?_
            refine AllReady.cons rfl (fun K hK => ?_) AllReady.nil
            go_simp
            refine hK _ _ ?_
            refine wpAny_ready (rs := [8]) (by kernel_rfl) (by simp) ?_
            refine AllReady.cons rfl (fun K hK => ?_) AllReady.nil
            go_simp
            refine HP.out.mono ?_
            rintro e w7 ⟨rfl, B7⟩
            exact ⟨rfl, same3 (H7.out.1.below B7).S, by rw [hv, HZ.out, hz, hv3]; dsimp only [nameE]; rw [if_pos rfl, if_pos rfl, if_pos rfl, hpe]⟩
          refine AllReady.cons rfl (fun K hK => ?_) AllReady.nil
          go_simp
          refine hK _ _ ?_
          refine wpAny_ready (rs := [5]) (by kernel_rfl) (by simp) ?_
          refine AllReady.cons rfl (fun K hK => ?_) AllReady.nil
          go_simp
          refine hK _ _ ?_
          refine wpAny_ready (rs := [8]) (by kernel_rfl) (by simp) ?_
          refine AllReady.cons rfl (fun K hK => ?_) AllReady.nil
          go_simp
          refine HP.out.mono ?_
          rintro e w7 ⟨rfl, B7⟩
          exact ⟨rfl, same3 (H7.out.1.below B7).S, by rw [hv, HZ.out, hz, hv3]; dsimp only [nameE]; rw [if_pos rfl, if_pos rfl, if_pos rfl, hpe]⟩
        | ok l =>
          rw [hpe] at HP
          have hll : 0 < l.length := by
            unfold putE at hpe
            split at hpe
            · cases hpe
            · split at hpe
              · cases hpe
              · cases hpe; simp
          have HQ := Lib.hid (HP.out.mono (R' := fun e w' => ∃ g cap, e = .returned (.slice (some ⟨g, 0, none⟩) l.length cap) ∧ w'.ownsRow B 68 3 (.slice (some ⟨g, 0, none⟩) l.length cap) l.length (l.flatMap routeCells) ∧ Same (fun b => bv.ownBlock = some b) W5.drew w') (by
            rintro e w' ⟨v', rfl, ho, hs⟩
            rcases own_form ho with ⟨_, h0⟩ | ⟨g, cap, rfl, _⟩
            · omega
            · exact ⟨g, cap, rfl, ho, hs⟩))
          have hend : ∀ g cap' w6, Blk w6 rb C 59 → w6.ownsRow B 68 3 (.slice (some ⟨g, 0, none⟩) l.length cap') l.length (l.flatMap routeCells) → Same (fun b => bv.ownBlock = some b) W5.drew w6 →
              RowR w (w6.setCell ⟨rb, 14, none⟩ (.slice (some ⟨g, 0, none⟩) l.length cap')) B rb sm bv C es clk (.returned (.tuple #[])) (nameE (patV x1) (nameE (decide (x2.data = #[42]) || protoV x2) (nameE (ofV smallL x3) (putE bs { host := x1, proto := x2, backend := x3 } (fun x => decide (lowB x.host = lowB x1) && decide (x.proto.data = x2.data)) id)))) := by
            intro g cap' w6 hr6 ho6 hs6
            have hrow : Same (fun b => b = rb ∨ b = sm ∨ bv.ownBlock = some b) w (w6.setCell ⟨rb, 14, none⟩ (.slice (some ⟨g, 0, none⟩) l.length cap')) :=
              ((same3 H7.out.1.S).trans (hs6.mono fun b _ h => .inr (.inr h))).set _ _ (fun _ => .inl rfl)
            refine ⟨hrow, ?_⟩
            rw [hv, HZ.out, hz, hv3]
            dsimp only [nameE]
            rw [if_pos rfl, if_pos rfl, if_pos rfl, hpe]
            refine ⟨rfl, _, hr6.set 14 _, ?_, ?_⟩
            · exact (Below.heap_setCell w6 _ _ sm (by simpa using H7.out.1.mne)).trans ((hs6.block sm hmlt (fun h => (HG.out _ h).2.1 rfl)).trans H7.out.1.M)
            · exact own_same ho6 ((Same.refl (fun b => b = rb) w6).set _ _ (fun _ => rfl)) (fun g' c fz hg e => by
                subst e
                have := (show w6.heap[g']? = _ from hr6).symm.trans hg
                simp only [Option.some.injEq, Obj.cells.injEq] at this
                exact absurd this.2.1 (by decide))
          have HEND := Lib.hid hend
          clear hend
          refine wp_region_any (by kernel_rfl) ?_
          try (change wpAny _ _ _ _ _ _ _ (World.drew _))
          refine wpAny_take (i := 0) (v := ?v0_107) rfl (by kernel_rfl) (by kernel_rfl) (by kernel_rfl) (fun _ _ _ h => h) (Or.inl ⟨by kernel_rfl, ?y0_107⟩) ?r0_107
          case y0_107 =>
            intro w
            go_simp
            with_reducible rfl
          refine wpAny_take (i := 1) (v := ?v1_108) rfl (by kernel_rfl) (by kernel_rfl) (by kernel_rfl) (fun _ _ _ h => h) (Or.inl ⟨by kernel_rfl, ?y1_108⟩) ?r1_108
          case y1_108 =>
            intro w
            go_simp
            with_reducible rfl
          refine wpAny_take (i := 2) (v := ?v2_109) rfl (by kernel_rfl) (by kernel_rfl) (by kernel_rfl) (fun _ _ _ h => h) (Or.inl ⟨by kernel_rfl, ?y2_109⟩) ?r2_109
          case y2_109 =>
            intro w
            go_simp
            with_reducible rfl
          refine wpAny_take (i := 3) (v := ?v3_110) rfl (by kernel_rfl) (by kernel_rfl) (by kernel_rfl) (fun _ _ _ h => h) (Or.inl ⟨by kernel_rfl, ?y3_110⟩) ?r3_110
          case y3_110 =>
            intro w
            go_simp
            with_reducible rfl
          refine wpAny_take (i := 4) (v := ?v4_111) rfl (by kernel_rfl) (by kernel_rfl) (by kernel_rfl) (fun _ _ _ h => h) (Or.inl ⟨by kernel_rfl, ?y4_111⟩) ?r4_111
          case y4_111 =>
            intro w
            go_simp
            with_reducible rfl
          refine wpAny_take (i := 7) (v := ?v7_112) rfl (by kernel_rfl) (by kernel_rfl) (by kernel_rfl) (fun _ _ _ h => h) (Or.inl ⟨by kernel_rfl, ?y7_112⟩) ?r7_112
          case y7_112 =>
            intro w
            go_simp
            with_reducible rfl
          refine wpAny_ready (rs := [5, 6]) (by kernel_rfl) (by simp) ?_
          refine AllReady.cons rfl (fun K hK => ?_) ?_
          · go_simp
            refine hK _ _ ?_
            refine wpAny_ready (rs := [6]) (by kernel_rfl) (by simp) ?_
            refine AllReady.cons rfl (fun K hK => ?_) AllReady.nil
            go_simp
            refine hK _ _ ?_
            refine wpAny_ready (rs := [8]) (by kernel_rfl) (by simp) ?_
            refine AllReady.cons rfl (fun K hK => ?_) AllReady.nil
            go_simp
            refine HQ.out.mono ?_
            rintro e w7 ⟨g, cap', rfl, ho7, hs7⟩
            have r7 := H7.out.1.R.same (hs7.block rb hrlt (fun h => (HG.out _ h).1 rfl))
            have c13 : w7.cell? ⟨rb, 14, none⟩ = some bv := hs7.cell (p := ⟨rb, 14, none⟩) hrlt (fun h => (HG.out _ h).1 rfl) r13
            have f13 := r7.free 14
            have HE := Lib.hid (And.intro r7 (And.intro ho7 hs7))
            clear r7 ho7 hs7
            dsimp only
            refine hK _ _ ?_
            refine wpAny_take (i := 9) (v := ?v9_113) rfl (by kernel_rfl) (by kernel_rfl) (by kernel_rfl) (fun _ _ _ h => h) (Or.inl ⟨by kernel_rfl, ?y9_113⟩) ?r9_113
            case y9_113 =>
              intro w
              go_simp
              with_reducible rfl
            refine wpAny_take (i := 10) (v := ?v10_114) rfl (by kernel_rfl) (by kernel_rfl) (by kernel_rfl) (fun _ _ _ h => h) (Or.inl ⟨by kernel_rfl, ?y10_114⟩) ?r10_114
            case y10_114 =>
              intro w
              go_simp
              with_reducible rfl
            refine wpAny_take (i := 11) (v := ?v11_115) rfl (by kernel_rfl) (by kernel_rfl) (by kernel_rfl) (fun _ _ _ h => h) (Or.inl ⟨by kernel_rfl, ?y11_115⟩) ?r11_115
            case y11_115 =>
              intro w
              go_simp
              with_reducible rfl
            refine wpAny_ready (rs := [12]) (by kernel_rfl) (by simp) ?_
            refine AllReady.cons rfl (fun K hK => ?_) AllReady.nil
            go_simp
            refine hK _ _ ?_
            refine wpAny_done (by kernel_rfl) ?_ _
            go_wp2
            go_end0
            exact HEND.out g cap' w7 HE.out.1 HE.out.2.1 HE.out.2.2
          refine AllReady.cons rfl (fun K hK => ?_) AllReady.nil
          go_simp
          refine hK _ _ ?_
          refine wpAny_ready (rs := [5]) (by kernel_rfl) (by simp) ?_
          refine AllReady.cons rfl (fun K hK => ?_) AllReady.nil
          go_simp
          refine hK _ _ ?_
          refine wpAny_ready (rs := [8]) (by kernel_rfl) (by simp) ?_
          refine AllReady.cons rfl (fun K hK => ?_) AllReady.nil
          go_simp
          refine HQ.out.mono ?_
          rintro e w7 ⟨g, cap', rfl, ho7, hs7⟩
          have r7 := H7.out.1.R.same (hs7.block rb hrlt (fun h => (HG.out _ h).1 rfl))
          have c13 : w7.cell? ⟨rb, 14, none⟩ = some bv := hs7.cell (p := ⟨rb, 14, none⟩) hrlt (fun h => (HG.out _ h).1 rfl) r13
          have f13 := r7.free 14
          have HE := Lib.hid (And.intro r7 (And.intro ho7 hs7))
          clear r7 ho7 hs7
          dsimp only
          refine hK _ _ ?_
          refine wpAny_take (i := 9) (v := ?v9_116) rfl (by kernel_rfl) (by kernel_rfl) (by kernel_rfl) (fun _ _ _ h => h) (Or.inl ⟨by kernel_rfl, ?y9_116⟩) ?r9_116
          case y9_116 =>
            intro w
            go_simp
            with_reducible rfl
          refine wpAny_take (i := 10) (v := ?v10_117) rfl (by kernel_rfl) (by kernel_rfl) (by kernel_rfl) (fun _ _ _ h => h) (Or.inl ⟨by kernel_rfl, ?y10_117⟩) ?r10_117
          case y10_117 =>
            intro w
            go_simp
            with_reducible rfl
          refine wpAny_take (i := 11) (v := ?v11_118) rfl (by kernel_rfl) (by kernel_rfl) (by kernel_rfl) (fun _ _ _ h => h) (Or.inl ⟨by kernel_rfl, ?y11_118⟩) ?r11_118
          case y11_118 =>
            intro w
            go_simp
            with_reducible rfl
          refine wpAny_ready (rs := [12]) (by kernel_rfl) (by simp) ?_
          refine AllReady.cons rfl (fun K hK => ?_) AllReady.nil
          go_simp
          refine hK _ _ ?_
          refine wpAny_done (by kernel_rfl) ?_ _
          go_wp2
          go_end0
          exact HEND.out g cap' w7 HE.out.1 HE.out.2.1 HE.out.2.2
end Go.Proofs.YtjokcflpjpophaaGreatDoor
