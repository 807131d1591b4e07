/- (reader).backend: a line of a backend. Conditions: the reader's block, its map, its list of backends and the words are there. -/
import Derived.Test.YtjokcflpjpophaaGreatDoorPutH
namespace Go.Proofs.YtjokcflpjpophaaGreatDoor
open Go.RowKit
attribute [local go_sem ↓] Go.wp_at_zero Go.wp_at_succ

/-- How a line ends that stands behind a list. -/
def RowB (w w' : World) (B rb sm : Nat) (bv : Value) (C : Array Value) (es : Array MapEntry) (clk : Nat) (e : Ending) (r : Except Int (List BackL)) : Prop :=
  Same (fun b => b = rb ∨ b = sm ∨ bv.ownBlock = some b) w w' ∧ match r with
    | .error k => e = .panicked [{ v := .iface 29 (.int .i64 k), recovered := false }]
    | .ok l => e = .returned (.tuple #[]) ∧ ∃ v', Blk w' rb (C.setIfInBounds 13 v') 59 ∧ w'.heap[sm]? = some (.map es clk) ∧ w'.ownsRow B 75 4 v' l.length (l.flatMap backCells)

theorem Stage.other {w0 W : World} {rb sm ww clk : Nat} {C : Array Value} {es : Array MapEntry} {xs : List ByteArray} (h : Stage w0 W rb sm ww C es clk xs) (bb i : Nat) (v : Value) (h8 : 8 ≤ w0.heap.size) (h0 : w0.heap.size ≤ bb) (h1 : bb ≠ rb) (h2 : bb ≠ sm) (h3 : bb ≠ ww) : Stage w0 (W.setCell ⟨bb, i, none⟩ v) rb sm ww C es clk xs where
  S := h.S.set _ _ (fun hlt => absurd hlt (by simpa using h0))
  R := h.R.other _ _ (fun e => h1 e.symm)
  M := (Below.heap_setCell W _ _ sm (by simpa using fun e => h2 e.symm)).trans h.M
  K := h.K
  C15 := h.C15
  L := h.L.below (B := 8) ((Below.refl 8 W).setCell (p := ⟨bb, i, none⟩) (by simpa using Nat.le_trans h8 h0) v) (Nat.le_refl _)
  words := fun j x hx => by
    rw [World.cell?_of_block (w := W) (Below.heap_setCell W _ _ ww (by simpa using fun e => h3 e.symm))]
    exact h.words j x hx
  wlt := by simpa [World.setCell] using h.wlt
  ne1 := h.ne1
  ne2 := h.ne2
  ge := h.ge
theorem own_same {S : Nat → Prop} {w w' : World} {base n size : Nat} {e : TypeId} {v : Value} {xs : List Value} (h : w.ownsRow base e size v n xs) (hs : Same S w w') (hS : ∀ g c fz, w.heap[g]? = some (.cells c e fz) → ¬ S g) : w'.ownsRow base e size v n xs := by
  refine ⟨h.1, h.2.imp id ?_⟩
  rintro ⟨g, cap, cur, hv, hg, hh, r⟩
  exact ⟨g, cap, cur, hv, hg, (hs.block g (Array.getElem?_eq_some_iff.1 hh).1 (hS g _ _ hh)).trans hh, r⟩
theorem same3 {w w' : World} {rb sm : Nat} {o : Option Nat} (h : Same (fun b => b = rb ∨ b = sm) w w') : Same (fun b => b = rb ∨ b = sm ∨ o = some b) w w' :=
  h.mono fun b _ hb => hb.elim .inl (fun e => .inr (.inl e))
/-- A list of the reader's is as it was. -/
theorem Stage.own {w W : World} {rb sm ww clk : Nat} {C : Array Value} {es : Array MapEntry} {xs : List ByteArray} (T : Stage w w rb sm ww C es clk xs) (h : Same (fun b => b = rb ∨ b = sm) w W) {base n size : Nat} {e : TypeId} {v : Value} {ys : List Value} (ho : w.ownsRow base e size v n ys) (he : e ≠ 59) : W.ownsRow base e size v n ys := by
  refine own_same ho h fun g c fz hg hS => ?_
  rcases hS with rfl | rfl
  · have := (show w.heap[g]? = _ from T.R).symm.trans hg
    simp only [Option.some.injEq, Obj.cells.injEq] at this
    exact he this.2.1.symm
  · exact absurd (T.M.symm.trans hg) (by simp)

set_option maxRecDepth 100000 in
set_option maxHeartbeats 4000000 in
theorem backend_calls (B rb sm ww : Nat) (C : Array Value) (bv : Value) (bs : List BackL) (x0 x1 x2 x3 x4 : ByteArray) (cap : Nat) (es : Array MapEntry) (clk : Nat) (w : World) (T : Stage w w rb sm ww C es clk [x0, x1, x2, x3, x4])
    (hx1 : x1.size ≤ 140737488351240) (hx2 : x2.size ≤ 140737488351240) (hx3 : x3.size ≤ 140737488351240) (hx4 : x4.size ≤ 140737488351240) (hC : C[13]? = some bv) (hB : B ≤ w.heap.size)
    (hown : w.ownsRow B 75 4 bv bs.length (bs.flatMap backCells)) (hn : bs.length ≤ 16) :
    Calls Tryz.prog 40 #[.pointer (some ⟨rb, 0, none⟩), .slice (some ⟨ww, 0, none⟩) 5 cap] w fun e w' =>
      RowB w w' B rb sm bv C es clk e (nameE (ofV smallL x1) (bindE (numE x2 0 255) fun n => nameE (hostV x3.data.toList) (nameE (ofV fileL x4) (putE bs { name := x1, addr := n, host := x3, roots := x4 } (fun x => decide (x.name.data = x1.data)) id)))) := by
  have g1 := T.words 1 x1 rfl
  have HF := Lib.hid (of_calls x1 ⟨smallL.toArray⟩ hx1 (by decide) w T.L)
  have HT := Lib.hid T
  have HO := Lib.hid (And.intro hown hC)
  clear T hown hC
  go_enter Tryz.func40, Tryz.ntmps40
  go_wp2_with fail
  refine HF.out.mono ?_
  rintro e w1 ⟨B1, he⟩
  have T1 := HT.out.below B1
  have he : e = match nameR (ofV smallL x1) x1 with | .ok v => .returned v | .error k => .panicked [{ v := .iface 29 (.int .i64 k), recovered := false }] := he
  cases hv : ofV smallL x1 with
  | false =>
    rw [hv] at he
    obtain rfl := he
    exact ⟨rfl, same_below B1, by rw [hv]; rfl⟩
  | true =>
    rw [hv] at he
    obtain rfl := he
    have TA := T1.below ((Below.refl w1.heap.size w1).alloc (Nat.le_refl _) (.cells #[.string x1, .int .i64 0, .string ⟨#[]⟩, .string ⟨#[]⟩] 75))
    have QA : Blk (w1.alloc (.cells #[.string x1, .int .i64 0, .string ⟨#[]⟩, .string ⟨#[]⟩] 75)) w1.heap.size #[.string x1, .int .i64 0, .string ⟨#[]⟩, .string ⟨#[]⟩] 75 := Blk.new _ _ _
    have k1 := TA.words 2 x2 rfl
    have e1 : ¬ w1.heap.size = rb := fun e => by have := T1.rlt; omega
    have e2 : ¬ w1.heap.size = sm := fun e => by have := T1.mlt; omega
    have e3 : ¬ w1.heap.size = ww := fun e => by have := T1.wlt; omega
    have HN := Lib.hid (number_calls x2 0 255 (by omega) _ TA.L)
    have HA := Lib.hid (And.intro TA QA)
    have h8 := HT.out.L.size
    have hw1 := B1.size
    clear T1 TA QA
    dsimp only [nameR_ok]
    go_wp2_with fail
    refine HN.out.mono ?_
    rintro e w2 ⟨B2, he⟩
    obtain ⟨TA, QA⟩ := HA.out
    have T2 := TA.below B2
    cases hn2 : numE x2 0 255 with
    | error k =>
      rw [hn2] at he
      obtain rfl := he
      exact ⟨rfl, same3 T2.S, by rw [hv, hn2]; rfl⟩
    | ok n =>
      rw [hn2] at he
      obtain rfl := he
      have Q2 := QA.below B2 QA.lt
      have c1 := Q2.cell 1
      have f1 := Q2.free 1
      have k2 := T2.words 3 x3 rfl
      have T3 := T2.other w1.heap.size 1 (.int .i64 n) h8 hw1 e1 e2 e3
      have k3 := T3.words 3 x3 rfl
      have Q3 := Q2.set 1 (.int .i64 n)
      have H3 := Lib.hid (And.intro T3 Q3)
      clear T2 T3 Q2 Q3 TA QA HA HN he
      dsimp only [bindE]
      go_wp2_with fail
      refine (Host_calls x3 hx3 _).mono ?_
      rintro e w3 ⟨rfl, B3⟩
      have T4 := H3.out.1.below B3
      dsimp only
      rw [show decide (0 < counted x3.data.toList) = hostV x3.data.toList from rfl]
      cases hh : hostV x3.data.toList with
      | false =>
        go_wp2_with fail
        refine (must_no 223 _).mono ?_
        rintro e w4 ⟨rfl, rfl⟩
        exact ⟨rfl, same3 T4.S, by rw [hv, hn2, hh]; rfl⟩
      | true =>
        go_wp2_with fail
        refine (must_ok _ _).mono ?_
        rintro e w4 ⟨rfl, rfl⟩
        have Q4 := H3.out.2.below B3 H3.out.2.lt
        have g3 := T4.words 3 x3 rfl
        have g4 := T4.words 4 x4 rfl
        have e3' : ¬ ww = w1.heap.size := fun e => e3 e.symm
        have HF4 := Lib.hid (file_calls x4 hx4 w3.drew T4.drew.L)
        have H4 := Lib.hid (And.intro T4.drew Q4.drew)
        clear T4 Q4 H3
        dsimp only
        go_wp2_with fail
        cases hv4 : ofV fileL x4 with
        | false =>
          rw [hv4] at HF4
          have HP := Lib.hid (HF4.out.mono (R' := fun e w' => Ends w3.drew w' e (nameR false x4) ∨ (Hid False ∧ e = .returned (.string x4))) fun e w' h => .inl h)
          go_region_held2 (fun w' => w'.cell? ⟨ww, 3, none⟩ = some (.string x3) ∧ w'.cell? ⟨ww, 4, none⟩ = some (.string x4)) (go_keep)
            (first
              | (go_at_call 35; refine HP.out.mono ?_; rintro e w4 (⟨B4, rfl⟩ | ⟨hF, rfl⟩); (exact ⟨rfl, same3 (H4.out.1.below B4).S, by rw [hv, hn2, hh, hv4]; rfl⟩); have e0 : w4.cell? ⟨ww, 3, none⟩ = some (.string x3) := hF.out.elim; have e1 : w4.cell? ⟨ww, 4, none⟩ = some (.string x4) := hF.out.elim; have c0 : w4.cell? ⟨w1.heap.size, 2, none⟩ = some (.int .i64 0) := hF.out.elim; have f0 : w4.frozen? ⟨w1.heap.size, 2, none⟩ = false := hF.out.elim; have c1 : w4.cell? ⟨w1.heap.size, 3, none⟩ = some (.int .i64 0) := hF.out.elim; have f1 : w4.frozen? ⟨w1.heap.size, 3, none⟩ = false := hF.out.elim; dsimp only))
          all_goals exact hF.out.elim
        | true =>
          rw [hv4] at HF4
          go_region_held3 (fun w' => w'.cell? ⟨ww, 3, none⟩ = some (.string x3) ∧ w'.cell? ⟨ww, 4, none⟩ = some (.string x4)) (go_keep)
            (first
              | (go_at_call 35; refine HF4.out.mono ?_; rintro e w4 ⟨B4, rfl⟩; have T5 := H4.out.1.below B4; have Q5 := H4.out.2.below B4 H4.out.2.lt; have H5 := Lib.hid (And.intro T5 Q5); have a3 := T5.words 3 x3 rfl; have a4 := T5.words 4 x4 rfl; have b2 := Q5.cell 2; have b3 := Q5.cell 3; have d2 := Q5.free 2; have d3 := Q5.free 3; clear T5 Q5; dsimp only [nameR_ok]))
          have T6 := (H5.out.1.other w1.heap.size 2 (.string x3) h8 hw1 e1 e2 e3).other w1.heap.size 3 (.string x4) h8 hw1 e1 e2 e3
          have Q6 : Blk ((w4.setCell ⟨w1.heap.size, 2, none⟩ (.string x3)).setCell ⟨w1.heap.size, 3, none⟩ (.string x4)) w1.heap.size #[.string x1, .int .i64 n, .string x3, .string x4] 75 := (H5.out.2.set 2 (.string x3)).set 3 (.string x4)
          obtain ⟨W5, hW5⟩ : ∃ W, (w4.setCell ⟨w1.heap.size, 2, none⟩ (.string x3)).setCell ⟨w1.heap.size, 3, none⟩ (.string x4) = W := ⟨_, rfl⟩
          rw [hW5] at T6 Q6
          rw [hW5]
          have own5 := HT.out.own T6.S HO.out.1 (by decide)
          have T6d := T6.drew
          have Q6d := Q6.drew
          have r13 : W5.cell? ⟨rb, 13, none⟩ = some bv := (T6.R.cell 13).trans HO.out.2
          have b0 : W5.cell? ⟨w1.heap.size, 0, none⟩ = some (.string x1) := Q6.cell 0
          have b1 : W5.cell? ⟨w1.heap.size, 1, none⟩ = some (.int .i64 n) := Q6.cell 1
          have b2 : W5.cell? ⟨w1.heap.size, 2, none⟩ = some (.string x3) := Q6.cell 2
          have b3 : W5.cell? ⟨w1.heap.size, 3, none⟩ = some (.string x4) := Q6.cell 3
          have hblt : w1.heap.size < W5.heap.size := Q6.lt
          have hsz5 : w.heap.size ≤ W5.heap.size := T6.S.size
          have hput := putB_calls B bv bs { name := x1, addr := n, host := x3, roots := x4 } 67 ⟨w1.heap.size, 0, none⟩ (fun x => decide (x.name.data = x1.data)) W5.drew hn (by simp; omega) (own_below own5 ((Below.refl W5.heap.size W5).drew)) (enters_of Tryz.func67 (by kernel_rfl) rfl)
            (fun W b hb _ => backend1_calls b w1.heap.size x1 W (Nat.lt_of_lt_of_le hblt hb.size) ((hb.cell (p := ⟨w1.heap.size, 0, none⟩) hblt).trans b0))
          have HP := Lib.hid hput
          have no1 : ∀ g, bv.ownBlock = some g → g ≠ rb ∧ g ≠ sm ∧ g ≠ w1.heap.size ∧ g < W5.heap.size := by
            intro g hg
            rcases HO.out.1.2 with ⟨h0, _⟩ | ⟨g', cap', cur, h0, _, hh, _⟩
            · rw [h0] at hg; cases hg
            · rw [h0] at hg
              simp only [Value.ownBlock, Option.some.injEq] at hg
              subst hg
              have hlt := (Array.getElem?_eq_some_iff.1 hh).1
              refine ⟨fun e => ?_, fun e => ?_, by omega, by omega⟩
              · subst e
                have := (show w.heap[g']? = _ from HT.out.R).symm.trans hh
                simp only [Option.some.injEq, Obj.cells.injEq] at this
                exact absurd this.2.1 (by decide)
              · subst e
                exact absurd (HT.out.M.symm.trans hh) (by simp)
          have HG := Lib.hid no1
          have H6 := Lib.hid (And.intro T6d Q6d)
          have hrlt := T6.rlt
          have hmlt := T6.mlt
          have e1' : ¬ rb = w1.heap.size := fun e => e1 e.symm
          have HW := Lib.hid hW5
          clear T6 Q6 T6d Q6d hput no1 hW5 own5 H5
          have hmf : ∀ (fn : Fn) (first cap : Array Value) (w : World), (Instr.makeFunc fn first cap).run Tryz.prog w = .ok (.func fn first cap) w := fun _ _ _ _ => rfl
          go_wp2_with fail
          cases hpe : putE bs { name := x1, addr := n, host := x3, roots := x4 } (fun x => decide (x.name.data = x1.data)) id with
          | error k =>
            rw [hpe] at HP
            refine wp_region_any (by kernel_rfl) ?_
            try (change wpAny _ _ _ _ _ _ _ (World.drew _))
            refine wpAny_take (i := 0) (v := ?v0_1) rfl (by kernel_rfl) (by kernel_rfl) (by kernel_rfl) (fun _ _ _ h => h) (Or.inl ⟨by kernel_rfl, ?y0_1⟩) ?r0_1
            case y0_1 =>
              intro w
              go_simp
              with_reducible rfl
            refine wpAny_take (i := 1) (v := ?v1_2) rfl (by kernel_rfl) (by kernel_rfl) (by kernel_rfl) (fun _ _ _ h => h) (Or.inl ⟨by kernel_rfl, ?y1_2⟩) ?r1_2
            case y1_2 =>
              intro w
              go_simp
              with_reducible rfl
            refine wpAny_take (i := 2) (v := ?v2_3) rfl (by kernel_rfl) (by kernel_rfl) (by kernel_rfl) (fun _ _ _ h => h) (Or.inl ⟨by kernel_rfl, ?y2_3⟩) ?r2_3
            case y2_3 =>
              intro w
              go_simp
              with_reducible rfl
            refine wpAny_take (i := 3) (v := ?v3_4) rfl (by kernel_rfl) (by kernel_rfl) (by kernel_rfl) (fun _ _ _ h => h) (Or.inl ⟨by kernel_rfl, ?y3_4⟩) ?r3_4
            case y3_4 =>
              intro w
              go_simp
              with_reducible rfl
            refine wpAny_take (i := 4) (v := ?v4_5) rfl (by kernel_rfl) (by kernel_rfl) (by kernel_rfl) (fun _ _ _ h => h) (Or.inl ⟨by kernel_rfl, ?y4_5⟩) ?r4_5
            case y4_5 =>
              intro w
              go_simp
              with_reducible rfl
            refine wpAny_take (i := 7) (v := ?v7_6) rfl (by kernel_rfl) (by kernel_rfl) (by kernel_rfl) (fun _ _ _ h => h) (Or.inl ⟨by kernel_rfl, ?y7_6⟩) ?r7_6
            case y7_6 =>
              intro w
              go_simp
              with_reducible rfl
            refine wpAny_ready (rs := [5, 6]) (by kernel_rfl) (by simp) ?_
            refine AllReady.cons rfl (fun K hK => ?_) ?_
            · go_simp
              refine hK _ _ ?_
              refine wpAny_ready (rs := [6]) (by kernel_rfl) (by simp) ?_
              refine AllReady.cons rfl (fun K hK => ?_) AllReady.nil
              go_simp
              refine hK _ _ ?_
              refine wpAny_ready (rs := [8]) (by kernel_rfl) (by simp) ?_
              refine AllReady.cons rfl (fun K hK => ?_) AllReady.nil
              go_simp
              refine HP.out.mono ?_
              rintro e w6 ⟨rfl, B6⟩
              exact ⟨rfl, same3 (H6.out.1.below B6).S, by rw [hv, hn2, hh, hv4]; dsimp only [nameE, bindE]; rw [if_pos rfl, if_pos rfl, if_pos rfl, hpe]⟩
            refine AllReady.cons rfl (fun K hK => ?_) AllReady.nil
            go_simp
            refine hK _ _ ?_
            refine wpAny_ready (rs := [5]) (by kernel_rfl) (by simp) ?_
            refine AllReady.cons rfl (fun K hK => ?_) AllReady.nil
            go_simp
            refine hK _ _ ?_
            refine wpAny_ready (rs := [8]) (by kernel_rfl) (by simp) ?_
            refine AllReady.cons rfl (fun K hK => ?_) AllReady.nil
            go_simp
            refine HP.out.mono ?_
            rintro e w6 ⟨rfl, B6⟩
            exact ⟨rfl, same3 (H6.out.1.below B6).S, by rw [hv, hn2, hh, hv4]; dsimp only [nameE, bindE]; rw [if_pos rfl, if_pos rfl, if_pos rfl, hpe]⟩
          | ok l =>
            rw [hpe] at HP
            have hll : 0 < l.length := by
              unfold putE at hpe
              split at hpe
              · cases hpe
              · split at hpe
                · cases hpe
                · cases hpe; simp
            have HQ := Lib.hid (HP.out.mono (R' := fun e w' => ∃ g cap, e = .returned (.slice (some ⟨g, 0, none⟩) l.length cap) ∧ w'.ownsRow B 75 4 (.slice (some ⟨g, 0, none⟩) l.length cap) l.length (l.flatMap backCells) ∧ Same (fun b => bv.ownBlock = some b) W5.drew w') (by
              rintro e w' ⟨v', rfl, ho, hs⟩
              rcases own_form ho with ⟨_, h0⟩ | ⟨g, cap, rfl, _⟩
              · omega
              · exact ⟨g, cap, rfl, ho, hs⟩))
            have hend : ∀ g cap' w6, Blk w6 rb C 59 → w6.ownsRow B 75 4 (.slice (some ⟨g, 0, none⟩) l.length cap') l.length (l.flatMap backCells) → Same (fun b => bv.ownBlock = some b) W5.drew w6 →
                RowB w (w6.setCell ⟨rb, 13, none⟩ (.slice (some ⟨g, 0, none⟩) l.length cap')) B rb sm bv C es clk (.returned (.tuple #[])) (nameE (ofV smallL x1) (bindE (numE x2 0 255) fun n => nameE (hostV x3.data.toList) (nameE (ofV fileL x4) (putE bs { name := x1, addr := n, host := x3, roots := x4 } (fun x => decide (x.name.data = x1.data)) id)))) := by
              intro g cap' w6 hr6 ho6 hs6
              have hrow : Same (fun b => b = rb ∨ b = sm ∨ bv.ownBlock = some b) w (w6.setCell ⟨rb, 13, none⟩ (.slice (some ⟨g, 0, none⟩) l.length cap')) :=
                ((same3 H6.out.1.S).trans (hs6.mono fun b _ h => .inr (.inr h))).set _ _ (fun _ => .inl rfl)
              refine ⟨hrow, ?_⟩
              rw [hv, hn2, hh, hv4]
              dsimp only [nameE, bindE]
              rw [if_pos rfl, if_pos rfl, if_pos rfl, hpe]
              refine ⟨rfl, _, hr6.set 13 _, ?_, ?_⟩
              · exact (Below.heap_setCell w6 _ _ sm (by simpa using H6.out.1.mne)).trans ((hs6.block sm hmlt (fun h => (HG.out _ h).2.1 rfl)).trans H6.out.1.M)
              · exact own_same ho6 ((Same.refl (fun b => b = rb) w6).set _ _ (fun _ => rfl)) (fun g' c fz hg e => by
                  subst e
                  have := (show w6.heap[g']? = _ from hr6).symm.trans hg
                  simp only [Option.some.injEq, Obj.cells.injEq] at this
                  exact absurd this.2.1 (by decide))
            have HEND := Lib.hid hend
            clear hend
            refine wp_region_any (by kernel_rfl) ?_
            try (change wpAny _ _ _ _ _ _ _ (World.drew _))
            refine wpAny_take (i := 0) (v := ?v0_7) rfl (by kernel_rfl) (by kernel_rfl) (by kernel_rfl) (fun _ _ _ h => h) (Or.inl ⟨by kernel_rfl, ?y0_7⟩) ?r0_7
            case y0_7 =>
              intro w
              go_simp
              with_reducible rfl
            refine wpAny_take (i := 1) (v := ?v1_8) rfl (by kernel_rfl) (by kernel_rfl) (by kernel_rfl) (fun _ _ _ h => h) (Or.inl ⟨by kernel_rfl, ?y1_8⟩) ?r1_8
            case y1_8 =>
              intro w
              go_simp
              with_reducible rfl
            refine wpAny_take (i := 2) (v := ?v2_9) rfl (by kernel_rfl) (by kernel_rfl) (by kernel_rfl) (fun _ _ _ h => h) (Or.inl ⟨by kernel_rfl, ?y2_9⟩) ?r2_9
            case y2_9 =>
              intro w
              go_simp
              with_reducible rfl
            refine wpAny_take (i := 3) (v := ?v3_10) rfl (by kernel_rfl) (by kernel_rfl) (by kernel_rfl) (fun _ _ _ h => h) (Or.inl ⟨by kernel_rfl, ?y3_10⟩) ?r3_10
            case y3_10 =>
              intro w
              go_simp
              with_reducible rfl
            refine wpAny_take (i := 4) (v := ?v4_11) rfl (by kernel_rfl) (by kernel_rfl) (by kernel_rfl) (fun _ _ _ h => h) (Or.inl ⟨by kernel_rfl, ?y4_11⟩) ?r4_11
            case y4_11 =>
              intro w
              go_simp
              with_reducible rfl
            refine wpAny_take (i := 7) (v := ?v7_12) rfl (by kernel_rfl) (by kernel_rfl) (by kernel_rfl) (fun _ _ _ h => h) (Or.inl ⟨by kernel_rfl, ?y7_12⟩) ?r7_12
            case y7_12 =>
              intro w
              go_simp
              with_reducible rfl
            refine wpAny_ready (rs := [5, 6]) (by kernel_rfl) (by simp) ?_
            refine AllReady.cons rfl (fun K hK => ?_) ?_
            · go_simp
              refine hK _ _ ?_
              refine wpAny_ready (rs := [6]) (by kernel_rfl) (by simp) ?_
              refine AllReady.cons rfl (fun K hK => ?_) AllReady.nil
              go_simp
              refine hK _ _ ?_
              refine wpAny_ready (rs := [8]) (by kernel_rfl) (by simp) ?_
              refine AllReady.cons rfl (fun K hK => ?_) AllReady.nil
              go_simp
              refine HQ.out.mono ?_
              rintro e w6 ⟨g, cap', rfl, ho6, hs6⟩
              have r6 := H6.out.1.R.same (hs6.block rb hrlt (fun h => (HG.out _ h).1 rfl))
              have c13 : w6.cell? ⟨rb, 13, none⟩ = some bv := hs6.cell (p := ⟨rb, 13, none⟩) hrlt (fun h => (HG.out _ h).1 rfl) r13
              have f13 := r6.free 13
              have HE := Lib.hid (And.intro r6 (And.intro ho6 hs6))
              clear r6 ho6 hs6
              dsimp only
              refine hK _ _ ?_
              refine wpAny_take (i := 9) (v := ?v9_13) rfl (by kernel_rfl) (by kernel_rfl) (by kernel_rfl) (fun _ _ _ h => h) (Or.inl ⟨by kernel_rfl, ?y9_13⟩) ?r9_13
              case y9_13 =>
                intro w
                go_simp
                with_reducible rfl
              refine wpAny_take (i := 10) (v := ?v10_14) rfl (by kernel_rfl) (by kernel_rfl) (by kernel_rfl) (fun _ _ _ h => h) (Or.inl ⟨by kernel_rfl, ?y10_14⟩) ?r10_14
              case y10_14 =>
                intro w
                go_simp
                with_reducible rfl
              refine wpAny_take (i := 11) (v := ?v11_15) rfl (by kernel_rfl) (by kernel_rfl) (by kernel_rfl) (fun _ _ _ h => h) (Or.inl ⟨by kernel_rfl, ?y11_15⟩) ?r11_15
              case y11_15 =>
                intro w
                go_simp
                with_reducible rfl
              refine wpAny_ready (rs := [12]) (by kernel_rfl) (by simp) ?_
              refine AllReady.cons rfl (fun K hK => ?_) AllReady.nil
              go_simp
              refine hK _ _ ?_
              refine wpAny_done (by kernel_rfl) ?_ _
              go_wp2
              go_end0
              exact HEND.out g cap' w6 HE.out.1 HE.out.2.1 HE.out.2.2
            refine AllReady.cons rfl (fun K hK => ?_) AllReady.nil
            go_simp
            refine hK _ _ ?_
            refine wpAny_ready (rs := [5]) (by kernel_rfl) (by simp) ?_
            refine AllReady.cons rfl (fun K hK => ?_) AllReady.nil
            go_simp
            refine hK _ _ ?_
            refine wpAny_ready (rs := [8]) (by kernel_rfl) (by simp) ?_
            refine AllReady.cons rfl (fun K hK => ?_) AllReady.nil
            go_simp
            refine HQ.out.mono ?_
            rintro e w6 ⟨g, cap', rfl, ho6, hs6⟩
            have r6 := H6.out.1.R.same (hs6.block rb hrlt (fun h => (HG.out _ h).1 rfl))
            have c13 : w6.cell? ⟨rb, 13, none⟩ = some bv := hs6.cell (p := ⟨rb, 13, none⟩) hrlt (fun h => (HG.out _ h).1 rfl) r13
            have f13 := r6.free 13
            have HE := Lib.hid (And.intro r6 (And.intro ho6 hs6))
            clear r6 ho6 hs6
            dsimp only
            refine hK _ _ ?_
            refine wpAny_take (i := 9) (v := ?v9_16) rfl (by kernel_rfl) (by kernel_rfl) (by kernel_rfl) (fun _ _ _ h => h) (Or.inl ⟨by kernel_rfl, ?y9_16⟩) ?r9_16
            case y9_16 =>
              intro w
              go_simp
              with_reducible rfl
            refine wpAny_take (i := 10) (v := ?v10_17) rfl (by kernel_rfl) (by kernel_rfl) (by kernel_rfl) (fun _ _ _ h => h) (Or.inl ⟨by kernel_rfl, ?y10_17⟩) ?r10_17
            case y10_17 =>
              intro w
              go_simp
              with_reducible rfl
            refine wpAny_take (i := 11) (v := ?v11_18) rfl (by kernel_rfl) (by kernel_rfl) (by kernel_rfl) (fun _ _ _ h => h) (Or.inl ⟨by kernel_rfl, ?y11_18⟩) ?r11_18
            case y11_18 =>
              intro w
              go_simp
              with_reducible rfl
            refine wpAny_ready (rs := [12]) (by kernel_rfl) (by simp) ?_
            refine AllReady.cons rfl (fun K hK => ?_) AllReady.nil
            go_simp
            refine hK _ _ ?_
            refine wpAny_done (by kernel_rfl) ?_ _
            go_wp2
            go_end0
            exact HEND.out g cap' w6 HE.out.1 HE.out.2.1 HE.out.2.2
end Go.Proofs.YtjokcflpjpophaaGreatDoor
