/- (reader).once: a word counted, refused the second time. Conditions: the reader's block and its map are there; each count is one. -/
import Derived.Test.YtjokcflpjpophaaGreatDoorNames
import Derived.Test.YtjokcflpjpophaaGreatDoorLines
namespace Go.Proofs.YtjokcflpjpophaaGreatDoor
open Go.RowKit

/-- Every word of the map was counted once. -/
def OnceKeys (es : Array MapEntry) : Prop := ∀ y ∈ es.toList, ∃ s, y.key = .string s ∧ y.val = .int .i64 1
theorem OnceKeys.isKey {es : Array MapEntry} (h : OnceKeys es) : ∀ y ∈ es.toList, MapKept.IsKey .string y.key := fun y hy => by
  obtain ⟨s, e, _⟩ := h y hy
  rw [e]
  trivial
theorem OnceKeys.push {es : Array MapEntry} (h : OnceKeys es) (x : ByteArray) (c : Nat) : OnceKeys (es.push { key := .string x, val := .int .i64 1, born := c }) := fun y hy => by
  rw [Array.toList_push] at hy
  rcases List.mem_append.1 hy with hy | hy
  · exact h y hy
  · obtain rfl := List.mem_singleton.1 hy
    exact ⟨x, rfl, rfl⟩
theorem push_find {es : Array MapEntry} (h : OnceKeys es) (x : ByteArray) (c : Nat) (hne : ∀ y ∈ es.toList, y.key ≠ .string x) :
    ∃ i, Instr.findNow .string (.string x) (es.push { key := .string x, val := .int .i64 1, born := c }).toList 0 = some (some (i, .int .i64 1)) := by
  rcases MapKept.findNow_spec (d := .string) (k := .string x) trivial _ 0 (h.push x c).isKey with ⟨_, h2⟩ | ⟨j, e, h1, h2, h3⟩
  · exact absurd rfl (h2 { key := .string x, val := .int .i64 1, born := c } (by rw [Array.toList_push]; simp))
  · obtain ⟨s, _, hv⟩ := (h.push x c) e (List.mem_of_getElem? h2)
    exact ⟨_, by rw [h1, hv]⟩

theorem set_find (x : ByteArray) (v : Value) : ∀ (l : List MapEntry) (n i : Nat) (old : Value), (∀ y ∈ l, MapKept.IsKey .string y.key) → Instr.findNow .string (.string x) l n = some (some (n + i, old)) →
    Instr.findNow .string (.string x) (l.modify i fun e => { e with key := .string x, val := v }) n = some (some (n + i, v))
  | [], n, i, old, _, h => by cases h
  | e :: es, n, i, old, hk, h => by
    obtain ⟨r, hr, hiff⟩ := MapKept.sameNow_of_keys (d := .string) (a := .string x) trivial (hk e (.head _))
    cases r with
    | true =>
      simp only [Instr.findNow, hr, Option.some.injEq, Prod.mk.injEq] at h
      obtain rfl : i = 0 := by omega
      obtain ⟨r2, hr2, hiff2⟩ := MapKept.sameNow_of_keys (d := .string) (a := .string x) (b := .string x) trivial trivial
      rw [hiff2.2 rfl] at hr2
      simp [List.modify, Instr.findNow, hr2]
    | false =>
      simp only [Instr.findNow, hr] at h
      rcases MapKept.findNow_spec (d := .string) (k := .string x) trivial es (n + 1) (fun y hy => hk y (.tail _ hy)) with ⟨h1, _⟩ | ⟨j, e', h1, _, _⟩
      · rw [h1] at h; cases h
      · have hj := h1
        rw [h] at h1
        simp only [Option.some.injEq, Prod.mk.injEq] at h1
        obtain ⟨h2, h3⟩ := h1
        obtain rfl : i = j + 1 := by omega
        have ih := set_find x v es (n + 1) j e'.val (fun y hy => hk y (.tail _ hy)) hj
        rw [List.modify_succ_cons]
        simp only [Instr.findNow, hr]
        rw [ih, show n + 1 + j = n + (j + 1) by omega]

theorem must_no' (k : Int) (w : World) : Calls Tryz.prog 45 #[.bool false, .int .i64 k] w fun e w' => e = .panicked [{ v := .iface 29 (.int .i64 k), recovered := false }] ∧ w = w' := must_no k w

set_option maxRecDepth 100000 in
set_option maxHeartbeats 1000000 in
theorem once_calls (rb sm : Nat) (C : Array Value) (x : ByteArray) (es : Array MapEntry) (clk : Nat) (w : World) (hr : Blk w rb C 59) (hC : C[15]? = some (.map (some sm))) (hm : w.heap[sm]? = some (.map es clk)) (hk : OnceKeys es) :
    Calls Tryz.prog 33 #[.pointer (some ⟨rb, 0, none⟩), .string x] w fun e w' =>
      ((∃ y ∈ es.toList, y.key = .string x) ∧ e = .panicked [{ v := .iface 29 (.int .i64 224), recovered := false }] ∧ Same (fun b => b = sm) w w') ∨
      ((∀ y ∈ es.toList, y.key ≠ .string x) ∧ e = .returned (.tuple #[]) ∧ w.putObj sm (.map (es.push { key := .string x, val := .int .i64 1, born := clk }) (clk + 1)) = w') := by
  have hne : rb ≠ sm := by
    intro e
    subst e
    rw [show w.heap[rb]? = _ from hr] at hm
    cases hm
  have c0 : w.cell? ⟨rb, 15, none⟩ = some (.map (some sm)) := by rw [hr.cell]; exact hC
  rcases MapKept.findNow_spec (d := .string) (k := .string x) trivial es.toList 0 hk.isKey with ⟨h1, h2⟩ | ⟨j, y, h1, h2, h3⟩
  · have hlk := run_mapMiss (P := Tryz.prog) (mty := 57) (kt := 9) (et := 3) (k := x) (z := .int .i64 0) Tryz.underlying57 Tryz.underlying9 hm h1 (by kernel_rfl) false
    have hup := run_mapPush (P := Tryz.prog) (mty := 57) (kt := 9) (et := 3) (k := x) (v := .int .i64 1) Tryz.underlying57 Tryz.underlying9 hm h1
    obtain ⟨W, hW⟩ : ∃ W, w.putObj sm (.map (es.push { key := .string x, val := .int .i64 1, born := clk }) (clk + 1)) = W := ⟨_, rfl⟩
    rw [hW] at hup
    have hm1 : W.heap[sm]? = some (.map (es.push { key := .string x, val := .int .i64 1, born := clk }) (clk + 1)) := by rw [← hW]; exact World.putObj_heap_same (Array.getElem?_eq_some_iff.1 hm).1
    have hr1 : Blk W rb C 59 := by rw [← hW]; exact hr.put _ _ hne
    have c1 : W.cell? ⟨rb, 15, none⟩ = some (.map (some sm)) := by rw [hr1.cell]; exact hC
    obtain ⟨i, hi⟩ := push_find hk x clk h2
    have hlk2 := run_mapGet (P := Tryz.prog) (mty := 57) (kt := 9) (et := 3) (k := x) Tryz.underlying57 Tryz.underlying9 hm1 hi false
    have HW := Lib.hid (And.intro hW h2)
    clear hW h2 hi hm hm1 h1 hk
    go_enter Tryz.func33, Tryz.ntmps33
    go_wp2_with fail
    refine (must_ok _ _).mono ?_
    rintro e w2 ⟨rfl, rfl⟩
    dsimp only
    go_wp2
    go_end0
    exact .inr ⟨HW.out.2, rfl, HW.out.1⟩
  · obtain ⟨s0, hs0, hv⟩ := hk y (List.mem_of_getElem? h2)
    rw [hv] at h1
    rw [Nat.zero_add] at h1
    have hlk := run_mapGet (P := Tryz.prog) (mty := 57) (kt := 9) (et := 3) (k := x) Tryz.underlying57 Tryz.underlying9 hm h1 false
    have hup := run_mapSet (P := Tryz.prog) (mty := 57) (kt := 9) (et := 3) (k := x) (v := .int .i64 2) Tryz.underlying57 Tryz.underlying9 hm h1 (by
      rw [← Array.getElem?_toList, h2]
      exact congrArg some h3)
    obtain ⟨W, hW⟩ : ∃ W, w.putObj sm (.map (es.modify j fun e => { e with key := .string x, val := .int .i64 2 }) clk) = W := ⟨_, rfl⟩
    rw [hW] at hup
    have hm1 : W.heap[sm]? = some (.map (es.modify j fun e => { e with key := .string x, val := .int .i64 2 }) clk) := by rw [← hW]; exact World.putObj_heap_same (Array.getElem?_eq_some_iff.1 hm).1
    have hr1 : Blk W rb C 59 := by rw [← hW]; exact hr.put _ _ hne
    have c1 : W.cell? ⟨rb, 15, none⟩ = some (.map (some sm)) := by rw [hr1.cell]; exact hC
    have hi : Instr.findNow .string (.string x) (es.modify j fun e => { e with key := .string x, val := .int .i64 2 }).toList 0 = some (some (j, .int .i64 2)) := by
      have := set_find x (.int .i64 2) es.toList 0 j (.int .i64 1) hk.isKey (by rw [Nat.zero_add]; exact h1)
      rw [Nat.zero_add] at this
      rw [Array.toList_modify]
      exact this
    have hlk2 := run_mapGet (P := Tryz.prog) (mty := 57) (kt := 9) (et := 3) (k := x) Tryz.underlying57 Tryz.underlying9 hm1 hi false
    have hS : Same (fun b => b = sm) w W := by rw [← hW]; exact (Same.refl _ w).put _ _ (fun _ => rfl)
    have HW := Lib.hid (And.intro hS (And.intro h2 h3))
    clear hW h2 h3 hi hm hm1 h1 hk hS
    go_enter Tryz.func33, Tryz.ntmps33
    go_wp2_with fail
    refine (must_no 224 _).mono ?_
    rintro e w2 ⟨rfl, rfl⟩
    exact ⟨rfl, .inl ⟨⟨y, List.mem_of_getElem? HW.out.2.1, HW.out.2.2⟩, rfl, HW.out.1⟩⟩
end Go.Proofs.YtjokcflpjpophaaGreatDoor
