/- The functions that read a line with one number (config.one$1 and the five that say where it goes). Conditions: the reader's block, its map, the words and what the function captured are there. -/
import Derived.Test.YtjokcflpjpophaaGreatDoorOnce
import Derived.Deep.RegionHeld3
import Derived.Deep.RegionHeld2
import Derived.Deep.DrawnRows
namespace Go.Proofs.YtjokcflpjpophaaGreatDoor
open Go.RowKit
attribute [local go_sem ↓] Go.wp_at_zero Go.wp_at_succ

theorem line1_calls (a : Nat) (w : World) : Calls Tryz.prog 25 #[.pointer (some ⟨a, 0, none⟩)] w fun e w' => e = .returned (.pointer (some ⟨a, 0, none⟩)) ∧ w = w' := by
  go_enter Tryz.func25, Tryz.ntmps25
  go_wp2
  go_ret
  exact ⟨rfl, rfl⟩
theorem line2_calls (a : Nat) (w : World) : Calls Tryz.prog 26 #[.pointer (some ⟨a, 0, none⟩)] w fun e w' => e = .returned (.pointer (some ⟨a, 1, none⟩)) ∧ w = w' := by
  go_enter Tryz.func26, Tryz.ntmps26
  go_wp2
  go_ret
  exact ⟨rfl, rfl⟩
theorem line3_calls (a : Nat) (w : World) : Calls Tryz.prog 27 #[.pointer (some ⟨a, 0, none⟩)] w fun e w' => e = .returned (.pointer (some ⟨a, 4, none⟩)) ∧ w = w' := by
  go_enter Tryz.func27, Tryz.ntmps27
  go_wp2
  go_ret
  exact ⟨rfl, rfl⟩
theorem line4_calls (a : Nat) (w : World) : Calls Tryz.prog 28 #[.pointer (some ⟨a, 0, none⟩)] w fun e w' => e = .returned (.pointer (some ⟨a, 5, none⟩)) ∧ w = w' := by
  go_enter Tryz.func28, Tryz.ntmps28
  go_wp2
  go_ret
  exact ⟨rfl, rfl⟩
theorem line5_calls (a : Nat) (w : World) : Calls Tryz.prog 29 #[.pointer (some ⟨a, 0, none⟩)] w fun e w' => e = .returned (.pointer (some ⟨a, 6, none⟩)) ∧ w = w' := by
  go_enter Tryz.func29, Tryz.ntmps29
  go_wp2
  go_ret
  exact ⟨rfl, rfl⟩

/-- How a line ends that is counted last: its values stand in the reader's block, or it stood already. -/
def SaysR (w w' : World) (rb sm : Nat) (es : Array MapEntry) (clk : Nat) (x : ByteArray) (e : Ending) (r : Except Int (Array Value)) : Prop :=
  Same (fun b => b = rb ∨ b = sm) w w' ∧ match r with
    | .error k => e = .panicked [{ v := .iface 29 (.int .i64 k), recovered := false }]
    | .ok C => ((∃ y ∈ es.toList, y.key = .string x) ∧ e = .panicked [{ v := .iface 29 (.int .i64 224), recovered := false }]) ∨
      ((∀ y ∈ es.toList, y.key ≠ .string x) ∧ e = .returned (.tuple #[]) ∧ Blk w' rb C 59 ∧ w'.heap[sm]? = some (.map (es.push { key := .string x, val := .int .i64 1, born := clk }) (clk + 1)))

theorem same_below {S : Nat → Prop} {w w' : World} (h : Below w.heap.size w w') : Same S w w' := ⟨h.os, h.tape, h.output, h.size, fun b hb _ => h.block b hb⟩

/-- once, behind what was stored. -/
theorem once_says (rb sm : Nat) (C : Array Value) (x : ByteArray) (es : Array MapEntry) (clk : Nat) (w0 w : World) (hs : Same (fun b => b = rb ∨ b = sm) w0 w) (hr : Blk w rb C 59) (hC : C[15]? = some (.map (some sm))) (hm : w.heap[sm]? = some (.map es clk)) (hk : OnceKeys es) :
    Calls Tryz.prog 33 #[.pointer (some ⟨rb, 0, none⟩), .string x] w fun e w' => SaysR w0 w' rb sm es clk x e (.ok C) := by
  have hne : rb ≠ sm := by
    intro e
    subst e
    rw [show w.heap[rb]? = _ from hr] at hm
    cases hm
  refine (once_calls rb sm C x es clk w hr hC hm hk).mono ?_
  rintro e w' (⟨h1, rfl, h2⟩ | ⟨h1, rfl, rfl⟩)
  · exact ⟨hs.trans (h2.mono fun b _ h => .inr h), .inl ⟨h1, rfl⟩⟩
  · exact ⟨hs.put _ _ (fun _ => .inr rfl), .inr ⟨h1, rfl, hr.put _ _ hne, World.putObj_heap_same (Array.getElem?_eq_some_iff.1 hm).1⟩⟩

set_option maxRecDepth 100000 in
set_option maxHeartbeats 2000000 in
theorem one1_calls (rb sm off q ww : Nat) (fk : Nat) (C : Array Value) (old : Value) (lo hi : Int) (x0 x1 : ByteArray) (cap : Nat) (es : Array MapEntry) (clk : Nat) (w : World) (hL : LaidW w) (hx : x1.size ≤ 281474976710656)
    (hf : ∀ w, Calls Tryz.prog fk #[.pointer (some ⟨rb, 0, none⟩)] w fun e w' => e = .returned (.pointer (some ⟨rb, off, none⟩)) ∧ w = w')
    (hfe : ∀ args w, (callFunc fk args).run Tryz.prog w = .ok (.enter fk args) w)
    (hr : Blk w rb C 59) (hC : C[15]? = some (.map (some sm))) (hoff : C[off]? = some old) (ho15 : off ≠ 15) (hm : w.heap[sm]? = some (.map es clk)) (hk : OnceKeys es)
    (hq : OneAt w q lo hi fk) (h0 : w.cell? ⟨ww, 0, none⟩ = some (.string x0)) (h1 : w.cell? ⟨ww, 1, none⟩ = some (.string x1)) (hb0 : rb < w.heap.size) (hwl : ww < w.heap.size) (n3 : ¬ rb = ww) :
    Calls Tryz.prog 56 #[.pointer (some ⟨rb, 0, none⟩), .slice (some ⟨ww, 0, none⟩) 2 cap, .pointer (some ⟨q, 0, none⟩), .pointer (some ⟨q + 1, 0, none⟩), .pointer (some ⟨q + 2, 0, none⟩)] w fun e w' =>
      SaysR w w' rb sm es clk x0 e (bindE (numE x1 lo hi) fun n => .ok (C.setIfInBounds off (.int .i64 n))) := by
  have d0 := hq.1.cell 0
  have d1 := hq.2.1.cell 0
  have d2 := hq.2.2.1.cell 0
  have l0 := hq.1.lt
  have l1 := hq.2.1.lt
  have l2 := hq.2.2.1.lt
  have HN := Lib.hid (number_calls x1 lo hi hx w.drew (hL.below ((Below.refl w.heap.size w).drew) hL.size))
  have nq : ∀ (j : Nat) (c : Array Value) (T : TypeId), Blk w j c T → T ≠ 59 → ¬ rb = j := fun j c T hj hT e => by
    subst e
    have := (show w.heap[rb]? = _ from hr).symm.trans (show w.heap[rb]? = _ from hj)
    simp only [Option.some.injEq, Obj.cells.injEq] at this
    exact hT this.2.1.symm
  have n0 := nq _ _ _ hq.1 (by decide)
  have n1 := nq _ _ _ hq.2.1 (by decide)
  have n2 := nq _ _ _ hq.2.2.1 (by decide)
  have n0' := fun e : q = rb => n0 e.symm
  have n1' := fun e : q + 1 = rb => n1 e.symm
  have n2' := fun e : q + 2 = rb => n2 e.symm
  have n3' := fun e : ww = rb => n3 e.symm
  have HF := Lib.hid hf
  have HI := Lib.hid (And.intro hr (And.intro hm (And.intro hk (And.intro hC hoff))))
  have s0 : w.cell? ⟨q, 0, none⟩ = some (.int .i64 lo) := d0
  have s1 : w.cell? ⟨q + 1, 0, none⟩ = some (.int .i64 hi) := d1
  have s2 : w.cell? ⟨q + 2, 0, none⟩ = some (.func (.func fk) #[] #[]) := d2
  clear hf hr hm hk hC hoff d0 d1 d2 hq nq
  go_enter Tryz.func56, Tryz.ntmps56
  go_wp2_with fail
  cases hn : numE x1 lo hi with
  | error k =>
    rw [hn] at HN
    have HP := Lib.hid (HN.out.mono (R' := fun e w' => Ends w.drew w' e (.error k) ∨ (Hid False ∧ e = .returned (.int .i64 0))) fun e w' h => .inl h)
    go_region_held2 (fun w' => w'.cell? ⟨q, 0, none⟩ = some (.int .i64 lo) ∧ w'.cell? ⟨q + 1, 0, none⟩ = some (.int .i64 hi) ∧ w'.cell? ⟨q + 2, 0, none⟩ = some (.func (.func fk) #[] #[]) ∧ w'.cell? ⟨ww, 1, none⟩ = some (.string x1)) (go_keep)
      (first
        | (go_at_call 32; refine HP.out.mono ?_; rintro e w1 (⟨B1, rfl⟩ | ⟨hF, rfl⟩); (exact ⟨rfl, same_below (((Below.refl w.heap.size w).drew).trans B1), by rw [hn]; rfl⟩); have e0 : w1.cell? ⟨q, 0, none⟩ = some (.int .i64 lo) := hF.out.elim; have e1 : w1.cell? ⟨q + 1, 0, none⟩ = some (.int .i64 hi) := hF.out.elim; have e2 : w1.cell? ⟨q + 2, 0, none⟩ = some (.func (.func fk) #[] #[]) := hF.out.elim; have e3 : w1.cell? ⟨ww, 1, none⟩ = some (.string x1) := hF.out.elim; have c1 : w1.cell? ⟨rb, off, none⟩ = some (.int .i64 0) := hF.out.elim; have f1 : w1.frozen? ⟨rb, off, none⟩ = false := hF.out.elim; dsimp only)
        | (guard_target =~ Calls _ _ _ _ _; refine (HF.out _).mono ?_; rintro e w' ⟨rfl, rfl⟩))
    exact hF.out.elim
  | ok n =>
    rw [hn] at HN
    go_region_held3 (fun w' => w'.cell? ⟨q, 0, none⟩ = some (.int .i64 lo) ∧ w'.cell? ⟨q + 1, 0, none⟩ = some (.int .i64 hi) ∧ w'.cell? ⟨q + 2, 0, none⟩ = some (.func (.func fk) #[] #[]) ∧ w'.cell? ⟨ww, 1, none⟩ = some (.string x1)) (go_keep)
      (first
        | (go_at_call 32; refine HN.out.mono ?_; rintro e w1 ⟨B1, rfl⟩; have e0 := (B1.cell (p := ⟨q, 0, none⟩) l0).trans s0; have e1 := (B1.cell (p := ⟨q + 1, 0, none⟩) l1).trans s1; have e2 := (B1.cell (p := ⟨q + 2, 0, none⟩) l2).trans s2; have e3 := (B1.cell (p := ⟨ww, 1, none⟩) hwl).trans h1; have r1 := (HI.out.1.drew).below B1 hb0; have c1 := (r1.cell off).trans HI.out.2.2.2.2; have f1 := r1.free off; dsimp only [bindE])
        | (guard_target =~ Calls _ _ _ _ _; refine (HF.out _).mono ?_; rintro e w' ⟨rfl, rfl⟩))
    have hS1 : Same (fun b => b = rb ∨ b = sm) w (w1.setCell ⟨rb, off, none⟩ (.int .i64 n)) := (same_below (((Below.refl w.heap.size w).drew).trans B1)).set _ _ (fun _ => .inl rfl)
    have hr2 := r1.set off (.int .i64 n)
    have hC2 : (C.setIfInBounds off (.int .i64 n))[15]? = some (.map (some sm)) := by rw [Array.getElem?_setIfInBounds_ne ho15]; exact HI.out.2.2.2.1
    have hsm : sm < w.heap.size := (Array.getElem?_eq_some_iff.1 HI.out.2.1).1
    have hnsm : sm ≠ rb := fun e => by
      have h1 := HI.out.1
      rw [← e] at h1
      exact absurd ((show w.heap[sm]? = _ from h1).symm.trans HI.out.2.1) (by simp)
    have hm2 : (w1.setCell ⟨rb, off, none⟩ (.int .i64 n)).heap[sm]? = some (.map es clk) := (Below.heap_setCell w1 _ _ sm (by simpa using hnsm)).trans ((B1.block sm hsm).trans HI.out.2.1)
    have g0 : (w1.setCell ⟨rb, off, none⟩ (.int .i64 n)).cell? ⟨ww, 0, none⟩ = some (.string x0) := by
      rw [World.cell?_of_block (w := w1) (Below.heap_setCell w1 _ _ ww (by simpa using n3'))]
      exact (B1.cell (p := ⟨ww, 0, none⟩) hwl).trans h0
    have HO := Lib.hid (once_says rb sm _ x0 es clk w _ hS1 hr2 hC2 hm2 HI.out.2.2.1)
    clear hS1 hr2 hC2 hm2
    go_wp2_with fail
    refine HO.out.mono ?_
    rintro e w2 ⟨hS, ⟨hy, rfl⟩ | ⟨hy, rfl, hb, hm2⟩⟩
    · exact ⟨rfl, hS, by rw [hn]; exact .inl ⟨hy, rfl⟩⟩
    · dsimp only
      go_wp2
      go_end0
      exact ⟨hS, by rw [hn]; exact .inr ⟨hy, rfl, hb, hm2⟩⟩
end Go.Proofs.YtjokcflpjpophaaGreatDoor
