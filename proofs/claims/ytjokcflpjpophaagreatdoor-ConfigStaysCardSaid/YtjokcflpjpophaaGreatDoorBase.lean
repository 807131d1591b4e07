/- Small lemmas on worlds that the walks of this seat share: a block of cells known whole, worlds that agree but for some blocks. No conditions: plain lemmas about the model. -/
import Derived.Test.YtjokcflpjpophaaGreatDoorProg
import Derived.WalkKit
import Derived.Defers
import Derived.Recover
import Derived.WalkLawsBesides
import Derived.WalkSpells
import Derived.Laws.EntriesVeiled
import Derived.RangeFuncNested
import Derived.RangeFuncBound
import Derived.RangeFuncCalls
import Derived.RangeFuncLeaves
import Derived.Shelf.Abstract
import Derived.OwnWalkIn
import Derived.TacticsInMore
import Derived.LoopNIn
import Derived.LoopIn
import Derived.Lib.Hide
import Derived.Lib.Split
import Derived.Lib.Bytealg
import Derived.Lib.ConvBytes
import Derived.Laws.Externs
import Derived.Deep.DeepFit
namespace Go.Proofs.YtjokcflpjpophaaGreatDoor
open Go.RowKit

/-- Block b of the world is the row c of type T, no cell of it frozen. -/
def Blk (w : World) (b : Nat) (c : Array Value) (T : TypeId) : Prop := w.heap[b]? = some (.cells c T (0, 0))

theorem Blk.cell {w : World} {b : Nat} {c : Array Value} {T : TypeId} (h : Blk w b c T) (i : Nat) : w.cell? ⟨b, i, none⟩ = c[i]? := by
  have h' : w.heap[b]? = some (.cells c T (0, 0)) := h
  simp [World.cell?, h']
theorem Blk.free {w : World} {b : Nat} {c : Array Value} {T : TypeId} (h : Blk w b c T) (i : Nat) : w.frozen? ⟨b, i, none⟩ = false := by
  have h' : w.heap[b]? = some (.cells c T (0, 0)) := h
  simp [World.frozen?, h']
theorem Blk.lt {w : World} {b : Nat} {c : Array Value} {T : TypeId} (h : Blk w b c T) : b < w.heap.size := (Array.getElem?_eq_some_iff.1 h).1
theorem Blk.new (w : World) (c : Array Value) (T : TypeId) : Blk (w.alloc (.cells c T)) w.heap.size c T := World.alloc_heap_new w _
theorem Blk.alloc {w : World} {b : Nat} {c : Array Value} {T : TypeId} (h : Blk w b c T) (o : Obj) : Blk (w.alloc o) b c T :=
  (Below.heap_alloc w o b h.lt).trans h
theorem Blk.drew {w : World} {b : Nat} {c : Array Value} {T : TypeId} (h : Blk w b c T) : Blk w.drew b c T := h
theorem Blk.below {w w' : World} {B b : Nat} {c : Array Value} {T : TypeId} (h : Blk w b c T) (hb : Below B w w') (hB : b < B) : Blk w' b c T :=
  (hb.block b hB).trans h
theorem Blk.set {w : World} {b : Nat} {c : Array Value} {T : TypeId} (h : Blk w b c T) (i : Nat) (v : Value) : Blk (w.setCell ⟨b, i, none⟩ v) b (c.setIfInBounds i v) T := by
  have h' : w.heap[b]? = some (.cells c T (0, 0)) := h
  simp [Blk, World.setCell, Array.getElem?_modify, h']
theorem Blk.other {w : World} {b : Nat} {c : Array Value} {T : TypeId} (h : Blk w b c T) (a : Addr) (v : Value) (ha : b ≠ a.block) : Blk (w.setCell a v) b c T :=
  (Below.heap_setCell w a v b ha).trans h
theorem Blk.put {w : World} {b : Nat} {c : Array Value} {T : TypeId} (h : Blk w b c T) (r : Nat) (o : Obj) (hr : b ≠ r) : Blk (w.putObj r o) b c T :=
  (World.putObj_heap_other hr).trans h
theorem Blk.same {w w' : World} {b : Nat} {c : Array Value} {T : TypeId} (h : Blk w b c T) (e : w'.heap[b]? = w.heap[b]?) : Blk w' b c T := e.trans h

/-- Block b of the world is the row c of type T; none of its cells is frozen. -/
def Row (w : World) (b : Nat) (c : Array Value) (T : TypeId) : Prop := ∃ fz : Nat × Nat, w.heap[b]? = some (.cells c T fz) ∧ ∀ i, i < c.size → (decide (fz.1 ≤ i) && decide (i < fz.2)) = false
theorem Row.cell {w : World} {b : Nat} {c : Array Value} {T : TypeId} (h : Row w b c T) (i : Nat) : w.cell? ⟨b, i, none⟩ = c[i]? := by
  obtain ⟨fz, h, _⟩ := h
  simp [World.cell?, h]
theorem Row.free {w : World} {b : Nat} {c : Array Value} {T : TypeId} (h : Row w b c T) (i : Nat) (hi : i < c.size) : w.frozen? ⟨b, i, none⟩ = false := by
  obtain ⟨fz, h, hf⟩ := h
  have := hf i hi
  simpa [World.frozen?, h] using this
theorem Row.lt {w : World} {b : Nat} {c : Array Value} {T : TypeId} (h : Row w b c T) : b < w.heap.size := by
  obtain ⟨fz, h, _⟩ := h
  exact (Array.getElem?_eq_some_iff.1 h).1
theorem Row.same {w w' : World} {b : Nat} {c : Array Value} {T : TypeId} (h : Row w b c T) (e : w'.heap[b]? = w.heap[b]?) : Row w' b c T := by
  obtain ⟨fz, h, hf⟩ := h
  exact ⟨fz, e.trans h, hf⟩
theorem Row.set {w : World} {b : Nat} {c : Array Value} {T : TypeId} (h : Row w b c T) (i : Nat) (v : Value) : Row (w.setCell ⟨b, i, none⟩ v) b (c.setIfInBounds i v) T := by
  obtain ⟨fz, h, hf⟩ := h
  refine ⟨fz, by simp [World.setCell, Array.getElem?_modify, h], fun j hj => hf j (by simpa using hj)⟩
theorem Blk.row {w : World} {b : Nat} {c : Array Value} {T : TypeId} (h : Blk w b c T) : Row w b c T := ⟨(0, 0), h, fun i _ => by simp⟩

theorem Row.alloc {w : World} {b : Nat} {c : Array Value} {T : TypeId} (h : Row w b c T) (o : Obj) : Row (w.alloc o) b c T := h.same (Below.heap_alloc w o b h.lt)
theorem Row.other {w : World} {b : Nat} {c : Array Value} {T : TypeId} (h : Row w b c T) (a : Addr) (v : Value) (ha : b ≠ a.block) : Row (w.setCell a v) b c T := h.same (Below.heap_setCell w a v b ha)
theorem Row.put {w : World} {b : Nat} {c : Array Value} {T : TypeId} (h : Row w b c T) (r : Nat) (o : Obj) (hr : b ≠ r) : Row (w.putObj r o) b c T := h.same (World.putObj_heap_other hr)
theorem Row.below {w w' : World} {B b : Nat} {c : Array Value} {T : TypeId} (h : Row w b c T) (hb : Below B w w') (hB : b < B) : Row w' b c T := h.same (hb.block b hB)
theorem add_off (b j : Nat) : (⟨b, 0, none⟩ : Addr).add j = ⟨b, j, none⟩ := by unfold Addr.add; split <;> simp_all

theorem bytesRow_row (w : World) (e : TypeId) (s : ByteArray) : Row (Lib.bytesWorld w e s) w.heap.size (Lib.bytesCells w e s) e :=
  ⟨_, Lib.bytesWorld_at_new w e s, fun i hi => by simp; omega⟩
theorem bytesWorld_below (w : World) (e : TypeId) (s : ByteArray) : Below w.heap.size w (Lib.bytesWorld w e s) := by
  refine ⟨?_, ?_, ?_, by rw [Lib.bytesWorld_size]; omega, fun k hk => Lib.bytesWorld_at_old w e s k hk⟩ <;>
    (unfold Lib.bytesWorld World.freeze; split <;> rfl)


/-- The world W' is W with further blocks; of what lay in W only blocks in S may have turned. -/
structure Same (S : Nat → Prop) (W W' : World) : Prop where
  os : W'.os = W.os
  tape : W'.tape = W.tape
  output : W'.output = W.output
  size : W.heap.size ≤ W'.heap.size
  block : ∀ b, b < W.heap.size → ¬ S b → W'.heap[b]? = W.heap[b]?

theorem Same.refl (S : Nat → Prop) (W : World) : Same S W W := ⟨rfl, rfl, rfl, Nat.le_refl _, fun _ _ _ => rfl⟩
theorem Same.trans {S : Nat → Prop} {A B C : World} (h : Same S A B) (k : Same S B C) : Same S A C :=
  ⟨k.os.trans h.os, k.tape.trans h.tape, k.output.trans h.output, Nat.le_trans h.size k.size, fun b hb hs => (k.block b (Nat.lt_of_lt_of_le hb h.size) hs).trans (h.block b hb hs)⟩
theorem Same.mono {S S' : Nat → Prop} {W W' : World} (h : Same S W W') (hS : ∀ b, b < W.heap.size → S b → S' b) : Same S' W W' :=
  ⟨h.os, h.tape, h.output, h.size, fun b hb hs => h.block b hb (fun k => hs (hS b hb k))⟩
theorem Same.alloc {S : Nat → Prop} {A W : World} (h : Same S A W) (o : Obj) : Same S A (W.alloc o) :=
  h.trans ⟨rfl, rfl, rfl, by simp, fun b hb _ => Below.heap_alloc W o b hb⟩
theorem Same.drew {S : Nat → Prop} {A W : World} (h : Same S A W) : Same S A W.drew := ⟨h.os, h.tape, h.output, h.size, h.block⟩
theorem Same.set {S : Nat → Prop} {A W : World} (h : Same S A W) (a : Addr) (v : Value) (ha : a.block < A.heap.size → S a.block) : Same S A (W.setCell a v) :=
  ⟨h.os, h.tape, h.output, by simpa [World.setCell] using h.size, fun b hb hs => (Below.heap_setCell W a v b (fun e => hs (by rw [e]; exact ha (by rw [← e]; exact hb)))).trans (h.block b hb hs)⟩
theorem Same.put {S : Nat → Prop} {A W : World} (h : Same S A W) (r : Nat) (o : Obj) (hr : r < A.heap.size → S r) : Same S A (W.putObj r o) :=
  ⟨h.os, h.tape, h.output, by simpa using h.size, fun b hb hs => (World.putObj_heap_other (fun e => hs (by rw [e]; exact hr (by rw [← e]; exact hb)))).trans (h.block b hb hs)⟩
theorem Same.below {S : Nat → Prop} {W W' : World} (h : Same S W W') (B : Nat) (hB : B ≤ W.heap.size) (hS : ∀ b, S b → B ≤ b) : Below B W W' :=
  ⟨h.os, h.tape, h.output, h.size, fun k hk => h.block k (by omega) (fun hs => by have := hS k hs; omega)⟩
theorem Same.ofBelow {B : Nat} {W W' : World} (h : Below B W W') : Same (fun b => B ≤ b) W W' :=
  ⟨h.os, h.tape, h.output, h.size, fun b _ hs => h.block b (Nat.lt_of_not_le hs)⟩
theorem Blk.kept {S : Nat → Prop} {w w' : World} {b : Nat} {c : Array Value} {T : TypeId} (h : Blk w b c T) (hs : Same S w w') (hb : ¬ S b) : Blk w' b c T :=
  (hs.block b h.lt hb).trans h

end Go.Proofs.YtjokcflpjpophaaGreatDoor
