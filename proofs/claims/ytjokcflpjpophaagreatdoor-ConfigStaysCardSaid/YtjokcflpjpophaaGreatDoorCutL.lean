/- config.cutLeft: a text without the bytes of an ASCII set at its begin. Conditions: the set's bytes are below 128. -/
import Derived.Test.YtjokcflpjpophaaGreatDoorNum
import Derived.Lib.OthersKept
import Derived.Laws.RangeAny
import Derived.Deep.Cut
import Derived.Deep.CutBlock
import Derived.OwnWalk
namespace Go.Proofs.YtjokcflpjpophaaGreatDoor
open Go.RowKit

/-- Is a rune one of a set's bytes? -/
def inSet (l : List UInt8) (c : Nat) : Bool := l.any fun b => ((c : Int) == (b.toNat : Int))
theorem inSet_byte (l : List UInt8) (hl : ∀ b ∈ l, b.toNat < 128) (s : ByteArray) (pos : Nat) (h : pos < s.size) : inSet l (Utf8.decode s pos).1 = l.contains s[pos] := by
  rw [Bool.eq_iff_iff]
  unfold inSet
  simp only [List.any_eq_true, beq_iff_eq, List.contains_iff_mem]
  by_cases ha : (s[pos]'h).toNat < 128
  · rw [decode_ascii s pos h ha]
    constructor
    · rintro ⟨b, hb, e⟩
      have : s[pos] = b := UInt8.toNat_inj.1 (by simp only [] at e; omega)
      rw [this]; exact hb
    · exact fun hm => ⟨_, hm, rfl⟩
  · have h2 := (decode_high s pos h (by omega)).1
    constructor
    · rintro ⟨b, hb, e⟩
      have := hl b hb
      omega
    · exact fun hm => absurd (hl _ hm) ha
theorem width_pos (s : ByteArray) (pos : Nat) (h : pos < s.size) : 1 ≤ (Utf8.decode s pos).2 := by
  by_cases ha : (s[pos]'h).toNat < 128
  · rw [decode_ascii s pos h ha]
    exact Nat.le_refl _
  · exact (decode_high s pos h (by omega)).2
theorem width_in (l : List UInt8) (hl : ∀ b ∈ l, b.toNat < 128) (s : ByteArray) (pos : Nat) (h : pos < s.size) (hc : l.contains s[pos] = true) : (Utf8.decode s pos).2 = 1 := by
  have := hl _ (List.contains_iff_mem.1 hc)
  rw [decode_ascii s pos h this]

/-- What the loop keeps: its iterator's place; every byte ahead of it is in the set. -/
def LRel (w : World) (s set : ByteArray) (wr : World) : Prop := ∃ pos : Nat, pos ≤ s.size ∧ wr.heap[w.heap.size]? = some (.stringIter s pos) ∧ Below w.heap.size w wr ∧ (∀ j, j < pos → set.data.toList.contains (s.data.toList.getD j 0) = true)
theorem dropWhile_at : ∀ (p : UInt8 → Bool) (l : List UInt8) (pos : Nat), (∀ j, j < pos → p (l.getD j 0) = true) → (pos < l.length → p (l.getD pos 0) = false) → pos ≤ l.length → l.dropWhile p = l.drop pos
  | p, [], pos, _, _, h => by simp
  | p, x :: l, 0, _, h2, _ => by
    have : p x = false := by simpa using h2 (by simp)
    rw [List.dropWhile_cons, if_neg (by rw [this]; decide)]
    rfl
  | p, x :: l, pos + 1, h1, h2, h3 => by
    have : p x = true := by simpa using h1 0 (by omega)
    rw [List.dropWhile_cons, if_pos this, List.drop_succ_cons]
    exact dropWhile_at p l pos (fun j hj => by simpa using h1 (j + 1) (by omega)) (fun hl => by simpa using h2 (by simpa using hl)) (by simpa using h3)

/-- A text without the bytes of a set at its begin. -/
def cutL (s set : ByteArray) : ByteArray := ⟨(s.data.toList.dropWhile (set.data.toList.contains ·)).toArray⟩

set_option maxRecDepth 100000 in
set_option maxHeartbeats 2000000 in
theorem cutLeft_calls (s set : ByteArray) (hs : s.size ≤ 140737488351240) (hset : ∀ b ∈ set.data.toList, b.toNat < 128) (w : World) :
    Calls Tryz.prog 85 #[.string s, .string set] w fun e w' => e = .returned (.string (cutL s set)) ∧ Below w.heap.size w w' := by
  have HS := Lib.hid hset
  clear hset
  go_enter Tryz.func85, Tryz.ntmps85
  go_wp2_with fail
  go_loopw [7] (fun _ wr => LRel w s set wr) (fun _ wr => s.size - wr.iterPos w.heap.size)
  case atStart => exact ⟨0, Nat.zero_le _, by simp [World.iter_heap], (Below.refl _ w).alloc (Nat.le_refl _) _, fun j hj => by omega⟩
  case round =>
    obtain ⟨pos, hpos, hit, hB, hin⟩ := hrel
    have HI := Lib.hid hin
    clear hin
    by_cases hp : pos < s.size
    · obtain ⟨⟨c, d⟩, hd⟩ : ∃ x, Utf8.decode s pos = x := ⟨_, rfl⟩
      have hnx : ∀ ty, (Instr.next (.pointer (some ⟨w.heap.size, 0, none⟩)) true ty).run Tryz.prog wr = .ok (.tuple #[.bool true, .int .i64 pos, .int .i32 c]) (wr.iterAt w.heap.size s (pos + d)) := fun ty => by
        have := Lib.run_next_any_at (P := Tryz.prog) wr _ s pos ty hit hp
        rw [hd] at this
        exact this
      have hwd := width_pos s pos hp
      rw [hd] at hwd
      obtain ⟨W1, hW1⟩ : ∃ W, wr.iterAt w.heap.size s (pos + d) = W := ⟨_, rfl⟩
      have hit1 : W1.heap[w.heap.size]? = some (.stringIter s (pos + d)) := by rw [← hW1]; exact Lib.iterAt_heap _ _ _ _ _ hit
      have hB1 : Below w.heap.size w W1 := by rw [← hW1]; exact Lib.below_iterAt hB (Nat.le_refl _) _ _
      rw [hW1] at hnx
      have hlt1 : w.heap.size < W1.heap.size := (Array.getElem?_eq_some_iff.1 hit1).1
      clear hW1
      go_upto_block 2 with (fail)
      go_cut [7, 9] from 12 (fun inn _ wd => inn = .bool (inSet set.data.toList c) ∧ Below W1.heap.size W1 wd)
      case first =>
        go_wp2_with fail
        go_loopw [7] (fun inn wd => ∃ q : Nat, q ≤ set.size ∧ wd.heap[W1.heap.size]? = some (.stringIter set q) ∧ Below W1.heap.size W1 wd ∧ inn = .bool (inSet (set.data.toList.take q) c)) (fun _ wd => set.size - wd.iterPos W1.heap.size)
        case atStart => exact ⟨0, Nat.zero_le _, by simp [World.iter_heap], (Below.refl _ W1).alloc (Nat.le_refl _) _, rfl⟩
        case round =>
          obtain ⟨q, hq, hit2, hB2, rfl⟩ := hrel
          by_cases hq1 : q < set.size
          · have hb : (set[q]'hq1).toNat < 128 := HS.out _ (by
              show set.data[q] ∈ set.data.toList
              simp)
            have hnx2 : ∀ ty, (Instr.next (.pointer (some ⟨W1.heap.size, 0, none⟩)) true ty).run Tryz.prog _ = _ := fun ty => Lib.run_next_ascii_at _ _ set q ty hit2 hq1 hb
            have hstep : inSet (set.data.toList.take (q + 1)) c = (inSet (set.data.toList.take q) c || ((c : Int) == ((set[q]'hq1).toNat : Int))) := by
              have e : set.data.toList.take (q + 1) = set.data.toList.take q ++ [set[q]'hq1] := by
                rw [List.take_succ_eq_append_getElem (by simpa using hq1)]
                rfl
              rw [e]
              unfold inSet
              rw [List.any_append]
              simp
            have HT := Lib.hid hstep
            clear hstep
            have hp2 : World.iterPos _ W1.heap.size = q := iterPos_of hit2
            have hn2 := Lib.iterAt_heap _ _ _ _ (q + 1) hit2
            cases hin2 : inSet (set.data.toList.take q) c with
            | true =>
              go_wp2
              go_roundw
              case rel => exact ⟨q + 1, by omega, hn2, Lib.below_iterAt hB2 (Nat.le_refl _) _ _, by rw [HT.out, hin2]; rfl⟩
              case measure => rw [iterPos_of hn2, hp2]; omega
            | false =>
              go_wp2
              go_roundw
              case rel => exact ⟨q + 1, by omega, hn2, Lib.below_iterAt hB2 (Nat.le_refl _) _ _, by rw [HT.out, hin2]; rfl⟩
              case measure => rw [iterPos_of hn2, hp2]; omega
          · have hnx2 : ∀ ty, (Instr.next (.pointer (some ⟨W1.heap.size, 0, none⟩)) true ty).run Tryz.prog _ = _ := fun ty => Lib.run_next_end_at _ _ set q ty hit2 hq1
            go_wp2
            all_goals go_meet
            exact ⟨by rw [List.take_of_length_le (by rw [Array.length_toList]; show set.size ≤ q; omega)], hB2⟩
      case rest =>
        obtain ⟨rfl, hb2⟩ := hcut
        have hmem := inSet_byte set.data.toList HS.out s pos hp
        rw [hd] at hmem
        have hit2 : wc.heap[w.heap.size]? = some (.stringIter s (pos + d)) := (hb2.block _ hlt1).trans hit1
        have hB2 : Below w.heap.size w wc := hB1.trans (hb2.mono (Nat.le_of_lt hlt1))
        have hgd : s.data.toList.getD pos 0 = s[pos] := by
          have : pos < s.data.toList.length := by simpa using hp
          rw [List.getD_eq_getElem?_getD, List.getElem?_eq_getElem this]
          rfl
        have HG := Lib.hid hgd
        clear hgd
        cases hc : set.data.toList.contains s[pos] with
        | true =>
          have hd1 : d = 1 := by
            have := width_in set.data.toList HS.out s pos hp hc
            rw [hd] at this
            exact this
          rw [hc] at hmem
          simp only [] at hmem
          go_wp2
          go_roundw
          case rel =>
            have hin := HI.out
            have hgd := HG.out
            refine ⟨pos + d, by omega, hit2, hB2, fun j hj => ?_⟩
            rcases Nat.lt_or_ge j pos with h | h
            · exact hin j h
            · obtain rfl : j = pos := by omega
              rw [hgd]; exact hc
          case measure => rw [iterPos_of hit2, iterPos_of hit]; omega
        | false =>
          rw [hc] at hmem
          simp only [] at hmem
          have hdw : s.data.toList.dropWhile (set.data.toList.contains ·) = s.data.toList.drop pos :=
            dropWhile_at _ _ pos HI.out (fun _ => by rw [HG.out]; exact hc) (by simpa using hpos)
          have HD := Lib.hid hdw
          clear hdw
          go_wp2
          go_ret
          refine ⟨?_, hB2⟩
          have e : cutL s set = s.extract pos s.size := by
            unfold cutL
            rw [HD.out]
            apply ByteArray.ext
            apply Array.ext'
            have : s.data.size = s.size := rfl
            rw [ByteArray.data_extract, ← this]
            simp only [Array.toList_extract, List.extract_eq_take_drop]
            rw [List.take_of_length_le (by simp)]
          exact congrArg (fun x => Ending.returned (Value.string x)) e.symm
    · have hnx : ∀ ty, (Instr.next (.pointer (some ⟨w.heap.size, 0, none⟩)) true ty).run Tryz.prog wr = _ := fun ty => Lib.run_next_end_at wr _ s pos ty hit hp
      have hd : s.data.toList.dropWhile (set.data.toList.contains ·) = [] := by
        obtain rfl : pos = s.data.toList.length := by
          have : s.data.toList.length = s.size := by rw [Array.length_toList]; rfl
          omega
        rw [dropWhile_at _ _ _ HI.out (fun h => absurd h (Nat.lt_irrefl _)) (Nat.le_refl _), List.drop_length]
      have HD := Lib.hid hd
      clear hd
      go_wp2
      go_ret
      exact ⟨by unfold cutL; rw [HD.out]; rfl, hB⟩
end Go.Proofs.YtjokcflpjpophaaGreatDoor
