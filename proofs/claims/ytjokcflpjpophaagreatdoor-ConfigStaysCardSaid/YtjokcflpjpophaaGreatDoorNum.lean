/- What the variables that the library reads hold, in every later world; config.number. Conditions: those variables hold what their text lays. -/
import Derived.Test.YtjokcflpjpophaaGreatDoorSpec
import Derived.Test.YtjokcflpjpophaaGreatDoorCaught
import Derived.WalkSmall
import Derived.Lib.ItoaNum
import Derived.Shelf.Strconv.AtoiAll
namespace Go.Proofs.YtjokcflpjpophaaGreatDoor
open Go.RowKit Go.Sort

/-- The package-level variables, as the walks read them. -/
structure LaidW (w : World) : Prop where
  size : 8 ≤ w.heap.size
  pow : Lib.TabIs Tryz.prog w "internal/strconv.uint64pow10" .u64 Lib.pow10Tab
  utf : Lib.Utf8Tabs 0 1 w
  range : ∃ tp p, w.var? Tryz.prog "strconv.ErrRange" = some #[.iface tp p]
  synt : ∃ tp p, w.cell? ⟨3, 0, none⟩ = some (.iface tp p)
  mx : ∃ m, w.cell? ⟨2, 0, none⟩ = some (.int .i64 m)
theorem LaidW.below {w w' : World} {B : Nat} (h : LaidW w) (hb : Below B w w') (hB : 8 ≤ B) : LaidW w' := by
  refine ⟨Nat.le_trans h.size hb.size, ?_, ?_, ?_, ?_, ?_⟩
  · exact var?_below hb (g := 5) (by kernel_rfl) (by omega) h.pow
  · refine ⟨fun c hc => ?_, fun i hi => ⟨?_, ?_⟩⟩
    · rw [hb.cell (by simp; omega)]; exact h.utf.1 c hc
    · rw [hb.cell (by simp; omega)]; exact (h.utf.2 i hi).1
    · rw [hb.cell (by simp; omega)]; exact (h.utf.2 i hi).2
  · obtain ⟨tp, p, hv⟩ := h.range
    exact ⟨tp, p, var?_below hb (g := 4) (by kernel_rfl) (by omega) hv⟩
  · obtain ⟨tp, p, hv⟩ := h.synt
    exact ⟨tp, p, by rw [hb.cell (by simp; omega)]; exact hv⟩
  · obtain ⟨m, hv⟩ := h.mx
    exact ⟨m, by rw [hb.cell (by simp; omega)]; exact hv⟩

/-- How a reader of a word ends. -/
def Ends (w w' : World) (e : Ending) (r : Except Int Value) : Prop :=
  Below w.heap.size w w' ∧ e = match r with
    | .ok v => .returned v
    | .error k => .panicked [{ v := .iface 29 (.int .i64 k), recovered := false }]

theorem bytes_or {w w' : World} {e : TypeId} (h : w' = w ∨ ∃ t, w' = Lib.bytesWorld w e t) : Below w.heap.size w w' := by
  rcases h with rfl | ⟨t, rfl⟩
  · exact Below.refl _ _
  · exact bytesWorld_below _ _ _
theorem grow_below' (w : World) (k : Nat) (os : Array Obj) : Below w.heap.size w (grow (w.drewN k) os) :=
  ⟨rfl, rfl, rfl, by simp [grow, World.drewN], fun j hj => by simp [grow, World.drewN, Array.getElem?_append, hj]⟩

/-- strconv.Atoi, however it ends. -/
theorem atoi_ends (s : ByteArray) (hs : s.size ≤ 281474976710656) (w : World) (hL : LaidW w) :
    Calls Tryz.prog 58 #[.string s] w fun e w' => Below w.heap.size w w' ∧
      ((∃ v, Lib.atoiAll s.data.toList = .ok v ∧ e = .returned (.tuple #[.int .i64 v, .nilIface])) ∨
       ((∀ v, Lib.atoiAll s.data.toList ≠ .ok v) ∧ ∃ v t p, e = .returned (.tuple #[.int .i64 v, .iface t (.pointer (some p))]))) := by
  cases h : Lib.atoiAll s.data.toList
  · rename_i v
    refine (Tryz.strconv_Atoi_ok s (by omega) v h w).mono ?_
    rintro e w' ⟨rfl, hw⟩
    exact ⟨bytes_or hw, .inl ⟨v, rfl, rfl⟩⟩
  · obtain ⟨tp, p, hv⟩ := hL.synt
    refine (Any.strconv_Atoi_syntax Tryz.laysC172 s hs h _ w hv (.inr ⟨tp, p, rfl⟩)).mono ?_
    rintro e w' ⟨N, rfl, _, _, hb⟩
    exact ⟨hb, .inr ⟨fun v hv => (by cases hv), _, _, _, rfl⟩⟩
  · obtain ⟨tp, p, hv⟩ := hL.range
    refine (Tryz.strconv_Atoi_range_var s hs h tp p w hv).mono ?_
    rintro e w' ⟨N, rfl, _, _, hb⟩
    exact ⟨hb, .inr ⟨fun v hv => (by cases hv), _, _, _, rfl⟩⟩
end Go.Proofs.YtjokcflpjpophaaGreatDoor
