/- A reader on its way through a line: what stays, what each step leaves. No condition but what each theorem names. -/
import Derived.Test.YtjokcflpjpophaaGreatDoorRate
namespace Go.Proofs.YtjokcflpjpophaaGreatDoor
open Go.RowKit

/-- The reader's block holds C; its map, the words, the library's variables are there. -/
structure Stage (w0 W : World) (rb sm ww : Nat) (C : Array Value) (es : Array MapEntry) (clk : Nat) (xs : List ByteArray) : Prop where
  S : Same (fun b => b = rb ∨ b = sm) w0 W
  R : Blk W rb C 59
  M : W.heap[sm]? = some (.map es clk)
  K : OnceKeys es
  C15 : C[15]? = some (.map (some sm))
  L : LaidW W
  words : ∀ (i : Nat) x, xs[i]? = some x → W.cell? ⟨ww, i, none⟩ = some (.string x)
  wlt : ww < W.heap.size
  ne1 : ww ≠ rb
  ne2 : ww ≠ sm
  ge : 8 ≤ rb ∧ 8 ≤ sm

variable {w0 W W' : World} {rb sm ww clk : Nat} {C : Array Value} {es : Array MapEntry} {xs : List ByteArray}
theorem Stage.rlt (h : Stage w0 W rb sm ww C es clk xs) : rb < W.heap.size := h.R.lt
theorem Stage.mlt (h : Stage w0 W rb sm ww C es clk xs) : sm < W.heap.size := (Array.getElem?_eq_some_iff.1 h.M).1
theorem Stage.mne (h : Stage w0 W rb sm ww C es clk xs) : sm ≠ rb := fun e => by
  have h1 := h.R
  rw [← e] at h1
  exact absurd ((show W.heap[sm]? = _ from h1).symm.trans h.M) (by simp)
theorem Stage.below (h : Stage w0 W rb sm ww C es clk xs) (hb : Below W.heap.size W W') : Stage w0 W' rb sm ww C es clk xs where
  S := h.S.trans (same_below hb)
  R := h.R.below hb h.rlt
  M := (hb.block sm h.mlt).trans h.M
  K := h.K
  C15 := h.C15
  L := h.L.below hb h.L.size
  words := fun i x hx => (hb.cell (p := ⟨ww, i, none⟩) h.wlt).trans (h.words i x hx)
  wlt := Nat.lt_of_lt_of_le h.wlt hb.size
  ne1 := h.ne1
  ne2 := h.ne2
  ge := h.ge
theorem Stage.set (h : Stage w0 W rb sm ww C es clk xs) (i : Nat) (hi : i ≠ 15) (v : Value) : Stage w0 (W.setCell ⟨rb, i, none⟩ v) rb sm ww (C.setIfInBounds i v) es clk xs where
  S := h.S.set _ _ (fun _ => .inl rfl)
  R := h.R.set i v
  M := (Below.heap_setCell W _ _ sm (by simpa using h.mne)).trans h.M
  K := h.K
  C15 := by rw [Array.getElem?_setIfInBounds_ne hi]; exact h.C15
  L := h.L.below (B := 8) ((Below.refl 8 W).setCell (p := ⟨rb, i, none⟩) h.ge.1 v) (Nat.le_refl _)
  words := fun j x hx => by
    rw [World.cell?_of_block (w := W) (Below.heap_setCell W _ _ ww (by simpa using h.ne1))]
    exact h.words j x hx
  wlt := by simpa [World.setCell] using h.wlt
  ne1 := h.ne1
  ne2 := h.ne2
  ge := h.ge
theorem Stage.drew (h : Stage w0 W rb sm ww C es clk xs) : Stage w0 W.drew rb sm ww C es clk xs := h.below ((Below.refl W.heap.size W).drew)
/-- A reader of a word gave up. -/
theorem Stage.gave {e : Ending} {k : Int} {x : ByteArray} {r : Except Int (Array Value)} (h : Stage w0 W rb sm ww C es clk xs) (he : e = .panicked [{ v := .iface 29 (.int .i64 k), recovered := false }]) (hr : r = .error k) : SaysR w0 W rb sm es clk x e r :=
  ⟨h.S, by rw [hr]; exact he⟩
theorem Stage.once (h : Stage w0 W rb sm ww C es clk xs) (x : ByteArray) : Calls Tryz.prog 33 #[.pointer (some ⟨rb, 0, none⟩), .string x] W fun e w' => SaysR w0 w' rb sm es clk x e (.ok C) :=
  once_says rb sm C x es clk w0 W h.S h.R h.C15 h.M h.K
end Go.Proofs.YtjokcflpjpophaaGreatDoor
