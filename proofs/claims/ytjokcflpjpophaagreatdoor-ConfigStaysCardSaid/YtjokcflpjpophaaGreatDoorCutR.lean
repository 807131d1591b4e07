/- config.cutRight at a text whose first byte is not in the set: it is empty only if the text is. Conditions: the set's bytes are below 128; utf8's tables hold what their text lays. -/
import Derived.Test.YtjokcflpjpophaaGreatDoorCutL
namespace Go.Proofs.YtjokcflpjpophaaGreatDoor
open Go.RowKit

theorem decodeL_low (m : List UInt8) (hm : m ≠ []) (h : (Lib.decodeL m).1 < 128) : ∃ b r, m = b :: r ∧ b.toNat < 128 ∧ Lib.decodeL m = (b.toNat, 1) := by
  cases m with
  | nil => exact absurd rfl hm
  | cons b r =>
    by_cases hb : b.toNat < 128
    · exact ⟨b, r, rfl, hb, by
        have := decode_ascii ⟨(b :: r).toArray⟩ 0 (by simp [ByteArray.size]) hb
        exact this⟩
    · exfalso
      have h0 : 0 < (⟨(b :: r).toArray⟩ : ByteArray).size := by simp [ByteArray.size]
      have := (decode_high ⟨(b :: r).toArray⟩ 0 h0 (by
        show 128 ≤ b.toNat
        omega)).1
      have e : Lib.decodeL (b :: r) = Utf8.decode ⟨(b :: r).toArray⟩ 0 := rfl
      rw [e] at h
      omega
theorem last_low (l : List UInt8) (hne : l ≠ []) (h : (Lib.decodeLastL l).1 < 128) : (l.getD (l.length - 1) 0).toNat = (Lib.decodeLastL l).1 ∧ (Lib.decodeLastL l).2 = 1 := by
  unfold Lib.decodeLastL at h ⊢
  rw [if_neg hne] at h ⊢
  by_cases hb : (l.getD (l.length - 1) 0).toNat < 128
  · rw [if_pos hb]
    exact ⟨rfl, rfl⟩
  · rw [if_neg hb] at h ⊢
    simp only [] at h ⊢
    split at h
    · rename_i he
      have hmne : l.drop (Lib.lastStart l) ≠ [] := by
        intro e
        rw [e] at he
        have e2 : (Lib.decodeL []).2 = 1 := by decide
        have e3 := congrArg List.length e
        rw [List.length_drop] at e3
        have : 0 < l.length := List.length_pos_iff.2 hne
        simp only [List.length_nil] at e3
        omega
      obtain ⟨b, r, hm, h1, h2⟩ := decodeL_low _ hmne h
      rw [h2] at he
      have hlen : (l.drop (Lib.lastStart l)).length = 1 := by rw [List.length_drop]; simp only [] at he; omega
      rw [hm] at hlen
      have hr : r = [] := List.eq_nil_of_length_eq_zero (by simpa using hlen)
      subst hr
      have hg : l.getD (l.length - 1) 0 = b := by
        have e : l[Lib.lastStart l]? = some b := by
          have := List.getElem?_drop (xs := l) (i := Lib.lastStart l) (j := 0)
          rw [hm] at this
          simpa using this.symm
        rw [List.getD_eq_getElem?_getD, show l.length - 1 = Lib.lastStart l by simp only [] at he; omega, e]
        rfl
      rw [hg] at hb
      exact absurd h1 hb
    · exact absurd h (by decide)

def strLen : Value → Nat
  | .string u => u.size
  | _ => 0
/-- What the loop keeps: some bytes of the text's begin, at least one if there is one. -/
def RRel (w : World) (t : ByteArray) (sv : Value) (wr : World) : Prop := ∃ u : ByteArray, sv = .string u ∧ Below w.heap.size w wr ∧ LaidW wr ∧ ∃ k : Nat, k ≤ t.size ∧ u.data.toList = t.data.toList.take k ∧ (0 < t.size → 0 < k)
def Left (t : ByteArray) (e : Ending) : Prop := ∃ u : ByteArray, e = .returned (.string u) ∧ u.toList.isEmpty = t.toList.isEmpty
theorem isEmpty_size (t : ByteArray) : t.toList.isEmpty = decide (t.size = 0) := by
  rw [ByteArray.toList_eq]
  have hd : t.data.size = t.size := rfl
  cases hl : t.data.toList with
  | nil => simp [← hd, ← Array.length_toList, hl]
  | cons a l => simp [← hd, ← Array.length_toList, hl]

set_option maxRecDepth 100000 in
set_option maxHeartbeats 2000000 in
theorem cutRight_calls (t set : ByteArray) (ht : t.size ≤ 140737488351240) (hset : ∀ b ∈ set.data.toList, b.toNat < 128) (h0 : 0 < t.size → set.data.toList.contains (t.data.toList.getD 0 0) = false) (w : World) (hL : LaidW w) :
    Calls Tryz.prog 84 #[.string t, .string set] w fun e w' => Left t e ∧ Below w.heap.size w w' := by
  have HS := Lib.hid hset
  have H0 := Lib.hid h0
  clear hset h0
  go_enter Tryz.func84, Tryz.ntmps84
  go_wp2_with fail
  go_loopw [0] (fun sv wr => RRel w t sv wr) (fun sv _ => strLen sv)
  case atStart => exact ⟨t, rfl, Below.refl _ _, hL, t.size, Nat.le_refl _, by rw [List.take_of_length_le (by rw [Array.length_toList]; exact Nat.le_refl _)], id⟩
  case round =>
    obtain ⟨u, rfl, hB, hLw, k, hk, hu, hpos⟩ := hrel
    have huk : u.size = k := by
      have e1 : u.data.toList.length = u.size := by rw [Array.length_toList]; rfl
      have e2 : t.data.toList.length = t.size := by rw [Array.length_toList]; rfl
      rw [← e1, hu, List.length_take, e2]
      omega
    by_cases hz : u.size = 0
    · go_wp2
      go_ret
      refine ⟨⟨u, rfl, ?_⟩, hB⟩
      rw [isEmpty_size, isEmpty_size]
      congr 1
      simp only [eq_iff_iff]
      omega
    · have hul : u.size ≤ 140737488351240 := by omega
      have hk0 : 0 < k := by omega
      have HU := Lib.hid (And.intro hu huk)
      clear hu huk
      obtain ⟨⟨c, n⟩, hd⟩ : ∃ x, Lib.decodeLastL u.data.toList = x := ⟨_, rfl⟩
      have hdec := Tryz.utf8_DecodeLastRuneInString u wr (by omega) hLw.utf
      rw [hd] at hdec
      have HD := Lib.hid (And.intro hd hdec)
      clear hd hdec
      go_upto_block 2 with (go_at_call 110; refine HD.out.2.mono ?_; rintro e W1 ⟨rfl, hB1⟩)
      go_cut [7, 9, 38] from 10 (fun inn _ z wd => inn = .bool (inSet set.data.toList c) ∧ z = undef ∧ Below W1.heap.size W1 wd)
      case first =>
        go_wp2_with fail
        go_loopw [7] (fun inn wd => ∃ q : Nat, q ≤ set.size ∧ wd.heap[W1.heap.size]? = some (.stringIter set q) ∧ Below W1.heap.size W1 wd ∧ inn = .bool (inSet (set.data.toList.take q) c)) (fun _ wd => set.size - wd.iterPos W1.heap.size)
        case atStart => exact ⟨0, Nat.zero_le _, by simp [World.iter_heap], (Below.refl _ W1).alloc (Nat.le_refl _) _, rfl⟩
        case round =>
          obtain ⟨q, hq, hit2, hB2, rfl⟩ := hrel
          by_cases hq1 : q < set.size
          · have hb : (set[q]'hq1).toNat < 128 := HS.out _ (by
              show set.data[q] ∈ set.data.toList
              simp)
            have hnx2 : ∀ ty, (Instr.next (.pointer (some ⟨W1.heap.size, 0, none⟩)) true ty).run Tryz.prog _ = _ := fun ty => Lib.run_next_ascii_at _ _ set q ty hit2 hq1 hb
            have hstep : inSet (set.data.toList.take (q + 1)) c = (inSet (set.data.toList.take q) c || ((c : Int) == ((set[q]'hq1).toNat : Int))) := by
              have e : set.data.toList.take (q + 1) = set.data.toList.take q ++ [set[q]'hq1] := by
                rw [List.take_succ_eq_append_getElem (by simpa using hq1)]
                rfl
              rw [e]
              unfold inSet
              rw [List.any_append]
              simp
            have HT := Lib.hid hstep
            clear hstep
            have hp2 : World.iterPos _ W1.heap.size = q := iterPos_of hit2
            have hn2 := Lib.iterAt_heap _ _ _ _ (q + 1) hit2
            cases hin2 : inSet (set.data.toList.take q) c with
            | true =>
              go_wp2
              go_roundw
              case rel => exact ⟨q + 1, by omega, hn2, Lib.below_iterAt hB2 (Nat.le_refl _) _ _, by rw [HT.out, hin2]; rfl⟩
              case measure => rw [iterPos_of hn2, hp2]; omega
            | false =>
              go_wp2
              go_roundw
              case rel => exact ⟨q + 1, by omega, hn2, Lib.below_iterAt hB2 (Nat.le_refl _) _ _, by rw [HT.out, hin2]; rfl⟩
              case measure => rw [iterPos_of hn2, hp2]; omega
          · have hnx2 : ∀ ty, (Instr.next (.pointer (some ⟨W1.heap.size, 0, none⟩)) true ty).run Tryz.prog _ = _ := fun ty => Lib.run_next_end_at _ _ set q ty hit2 hq1
            go_wp2
            all_goals go_meet
            exact ⟨by rw [List.take_of_length_le (by rw [Array.length_toList]; show set.size ≤ q; omega)], rfl, hB2⟩
      case rest =>
        obtain ⟨rfl, rfl, hb2⟩ := hcut
        have hB2 : Below w.heap.size w wc := hB.trans ((hB1.trans (hb2.mono hB1.size)).mono hB.size)
        have hL2 : LaidW wc := (hLw.below hB1 hLw.size).below hb2 (Nat.le_trans hLw.size hB1.size)
        cases hc : inSet set.data.toList c with
        | false =>
          go_wp2
          go_ret
          refine ⟨⟨u, rfl, ?_⟩, hB2⟩
          rw [isEmpty_size, isEmpty_size]
          congr 1
          have := HU.out.2
          simp only [eq_iff_iff]
          omega
        | true =>
          have hlow : ∃ b : UInt8, b ∈ set.data.toList ∧ c = b.toNat := by
            unfold inSet at hc
            obtain ⟨b, hb, e⟩ := List.any_eq_true.1 hc
            exact ⟨b, hb, by have := beq_iff_eq.1 e; omega⟩
          obtain ⟨b, hbm, hcb⟩ := hlow
          have hune : u.data.toList ≠ [] := fun e => hz (by
            have : u.data.toList.length = u.size := by rw [Array.length_toList]; rfl
            rw [← this, e]; rfl)
          have hll := last_low u.data.toList hune (by rw [HD.out.1]; have := HS.out b hbm; simp only []; omega)
          rw [HD.out.1] at hll
          obtain ⟨hl1, rfl⟩ := hll
          have hlast : set.data.toList.contains (t.data.toList.getD (k - 1) 0) = true := by
            have e0 : u.data.toList.length = u.size := by rw [Array.length_toList]; rfl
            have e1 : u.data.toList.length = k := by have := HU.out.2; omega
            rw [e1] at hl1
            have e2 : u.data.toList.getD (k - 1) 0 = t.data.toList.getD (k - 1) 0 := by
              rw [HU.out.1, List.getD_eq_getElem?_getD, List.getElem?_take, if_pos (by omega), ← List.getD_eq_getElem?_getD]
            rw [← e2, UInt8.toNat_inj.1 (hl1.trans hcb)]
            exact List.contains_iff_mem.2 hbm
          have hk2 : k - 1 ≠ 0 := by
            intro e
            rw [e, H0.out (by omega)] at hlast
            cases hlast
          have hlen : ((u.size : Int) - 1).toNat = k - 1 := by have := HU.out.2; omega
          have hu1 : (u.extract 0 (k - 1)).data.toList = t.data.toList.take (k - 1) := by
            rw [Lib.extract_from_zero, HU.out.1, List.take_take, Nat.min_eq_left (by omega)]
          have hsz : (u.extract 0 (k - 1)).size < u.size := by have := HU.out.2; simp; omega
          have HF := Lib.hid (And.intro hu1 hsz)
          clear hu1 hsz hl1 hlast
          go_wp2
          go_roundw
          case rel =>
            exact ⟨_, rfl, hB2, hL2, k - 1, by omega, HF.out.1, fun _ => by omega⟩
          case measure => exact HF.out.2
end Go.Proofs.YtjokcflpjpophaaGreatDoor
