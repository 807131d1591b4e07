/- The functions that read the lines rate, tickets and clients. Conditions: the reader's block, its map and the words are there. -/
import Derived.Test.YtjokcflpjpophaaGreatDoorOne
namespace Go.Proofs.YtjokcflpjpophaaGreatDoor
open Go.RowKit
attribute [local go_sem ↓] Go.wp_at_zero Go.wp_at_succ

theorem LaidW.same {S : Nat → Prop} {w w' : World} (h : LaidW w) (hs : Same S w w') (hS : ∀ b, S b → 8 ≤ b) : LaidW w' :=
  h.below (B := 8) (hs.below 8 h.size hS) (Nat.le_refl _)
theorem Same.cell {S : Nat → Prop} {w w' : World} (hs : Same S w w') {p : Addr} {v : Value} (hp : p.block < w.heap.size) (hS : ¬ S p.block) (h : w.cell? p = some v) : w'.cell? p = some v := by
  rw [World.cell?_of_block (w := w) (hs.block _ hp hS)]
  exact h

set_option maxRecDepth 100000 in
set_option maxHeartbeats 2000000 in
theorem rate_calls (rb sm ww : Nat) (C : Array Value) (o2 o3 : Value) (x0 x1 x2 : ByteArray) (cap : Nat) (es : Array MapEntry) (clk : Nat) (w : World) (hL : LaidW w) (hx1 : x1.size ≤ 281474976710656) (hx2 : x2.size ≤ 281474976710656)
    (hr : Blk w rb C 59) (hC : C[15]? = some (.map (some sm))) (hc2 : C[2]? = some o2) (hc3 : C[3]? = some o3) (hm : w.heap[sm]? = some (.map es clk)) (hk : OnceKeys es)
    (h0 : w.cell? ⟨ww, 0, none⟩ = some (.string x0)) (h1 : w.cell? ⟨ww, 1, none⟩ = some (.string x1)) (h2 : w.cell? ⟨ww, 2, none⟩ = some (.string x2)) (hwl : ww < w.heap.size) (n3 : ¬ rb = ww) (h8 : 8 ≤ rb ∧ 8 ≤ sm) (n4 : ¬ ww = sm) :
    Calls Tryz.prog 31 #[.pointer (some ⟨rb, 0, none⟩), .slice (some ⟨ww, 0, none⟩) 3 cap] w fun e w' =>
      SaysR w w' rb sm es clk x0 e (bindE (numE x1 1 1000) fun n => bindE (numE x2 0 1000) fun m => .ok ((C.setIfInBounds 2 (.int .i64 n)).setIfInBounds 3 (.int .i64 m))) := by
  have hb0 := hr.lt
  have hsm : sm < w.heap.size := (Array.getElem?_eq_some_iff.1 hm).1
  have hnsm : sm ≠ rb := fun e => by
    have h1 := hr
    rw [← e] at h1
    exact absurd ((show w.heap[sm]? = _ from h1).symm.trans hm) (by simp)
  have HN := Lib.hid (number_calls x1 1 1000 hx1 w hL)
  have n3' := fun e : ww = rb => n3 e.symm
  have HI := Lib.hid (And.intro hr (And.intro hm (And.intro hk (And.intro hC (And.intro hc2 hc3)))))
  clear hr hm hk hC hc2 hc3
  go_enter Tryz.func31, Tryz.ntmps31
  go_wp2_with fail
  cases hn : numE x1 1 1000 with
  | error k =>
    rw [hn] at HN
    refine HN.out.mono ?_
    rintro e w1 ⟨B1, rfl⟩
    exact ⟨rfl, same_below B1, by rw [hn]; rfl⟩
  | ok n =>
    rw [hn] at HN
    refine HN.out.mono ?_
    rintro e w1 ⟨B1, rfl⟩
    have r1 := HI.out.1.below B1 hb0
    have c1 := (r1.cell 2).trans HI.out.2.2.2.2.1
    have f1 := r1.free 2
    have k2 := (B1.cell (p := ⟨ww, 2, none⟩) hwl).trans h2
    obtain ⟨W1, hW1⟩ : ∃ W, w1.setCell ⟨rb, 2, none⟩ (.int .i64 n) = W := ⟨_, rfl⟩
    have S1 : Same (fun b => b = rb ∨ b = sm) w W1 := by rw [← hW1]; exact (same_below B1).set _ _ (fun _ => .inl rfl)
    have R1 : Blk W1 rb (C.setIfInBounds 2 (.int .i64 n)) 59 := by rw [← hW1]; exact r1.set 2 _
    have g2 : W1.cell? ⟨ww, 2, none⟩ = some (.string x2) := S1.cell hwl (by simp; exact ⟨n3', n4⟩) h2
    have g0 : W1.cell? ⟨ww, 0, none⟩ = some (.string x0) := S1.cell hwl (by simp; exact ⟨n3', n4⟩) h0
    have hLW : LaidW W1 := hL.same S1 (by rintro b (rfl | rfl); exact h8.1; exact h8.2)
    have HN2 := Lib.hid (number_calls x2 0 1000 hx2 W1 hLW)
    have hmW : W1.heap[sm]? = some (.map es clk) := by rw [← hW1]; exact (Below.heap_setCell w1 _ _ sm (by simpa using hnsm)).trans ((B1.block sm hsm).trans HI.out.2.1)
    have HM := Lib.hid (And.intro hmW hW1)
    have hlt : W1.heap.size = w1.heap.size := by rw [← hW1]; simp [World.setCell]
    have hwl1 : ww < W1.heap.size := Nat.lt_of_lt_of_le hwl S1.size
    have hbl1 : rb < W1.heap.size := Nat.lt_of_lt_of_le hb0 S1.size
    have hsl1 : sm < W1.heap.size := Nat.lt_of_lt_of_le hsm S1.size
    clear hmW hW1 hlt r1
    dsimp only [bindE]
    go_wp2_with fail
    rw [HM.out.2]
    cases hn2 : numE x2 0 1000 with
    | error k =>
      rw [hn2] at HN2
      refine HN2.out.mono ?_
      rintro e w2 ⟨B2, rfl⟩
      exact ⟨rfl, S1.trans (same_below B2), by rw [hn]; dsimp only [bindE]; rw [hn2]⟩
    | ok n' =>
      rw [hn2] at HN2
      refine HN2.out.mono ?_
      rintro e w2 ⟨B2, rfl⟩
      have r2 := R1.below B2 hbl1
      have hc3 : (C.setIfInBounds 2 (.int .i64 n))[3]? = some o3 := by rw [Array.getElem?_setIfInBounds_ne (by decide)]; exact HI.out.2.2.2.2.2
      have c2 := (r2.cell 3).trans hc3
      have f2 := r2.free 3
      have k3 := (B2.cell (p := ⟨ww, 0, none⟩) hwl1).trans g0
      have S2 : Same (fun b => b = rb ∨ b = sm) w (w2.setCell ⟨rb, 3, none⟩ (.int .i64 n')) := (S1.trans (same_below B2)).set _ _ (fun _ => .inl rfl)
      have R2 := r2.set 3 (.int .i64 n')
      have hC2 : ((C.setIfInBounds 2 (.int .i64 n)).setIfInBounds 3 (.int .i64 n'))[15]? = some (.map (some sm)) := by
        rw [Array.getElem?_setIfInBounds_ne (by decide), Array.getElem?_setIfInBounds_ne (by decide)]
        exact HI.out.2.2.2.1
      have hm2 : (w2.setCell ⟨rb, 3, none⟩ (.int .i64 n')).heap[sm]? = some (.map es clk) := (Below.heap_setCell w2 _ _ sm (by simpa using hnsm)).trans ((B2.block sm hsl1).trans HM.out.1)
      have k0 : (w2.setCell ⟨rb, 3, none⟩ (.int .i64 n')).cell? ⟨ww, 0, none⟩ = some (.string x0) := S2.cell hwl (by simp; exact ⟨n3', n4⟩) h0
      have HO := Lib.hid (once_says rb sm _ x0 es clk w _ S2 R2 hC2 hm2 HI.out.2.2.1)
      clear S2 R2 hC2 hm2 r2 hc3
      dsimp only [bindE]
      go_wp2_with fail
      refine HO.out.mono ?_
      rintro e w3 ⟨hS, ⟨hy, rfl⟩ | ⟨hy, rfl, hb, hm2⟩⟩
      · exact ⟨rfl, hS, by rw [hn]; dsimp only [bindE]; rw [hn2]; exact .inl ⟨hy, rfl⟩⟩
      · dsimp only
        go_wp2
        go_end0
        exact ⟨hS, by rw [hn]; dsimp only [bindE]; rw [hn2]; exact .inr ⟨hy, rfl, hb, hm2⟩⟩
end Go.Proofs.YtjokcflpjpophaaGreatDoor
