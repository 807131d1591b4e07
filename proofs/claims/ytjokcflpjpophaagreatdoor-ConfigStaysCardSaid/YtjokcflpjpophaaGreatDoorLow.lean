/- The functions that write small letters for great ones: chain.lowered, config.lowered. Every text that fits the form's reach. -/
import Derived.Test.YtjokcflpjpophaaGreatDoorBase
namespace Go.Proofs.YtjokcflpjpophaaGreatDoor
open Go.RowKit

/-- A byte with a small letter for a great one. -/
def low (x : UInt8) : UInt8 := if 65 ≤ x.toNat ∧ x.toNat ≤ 90 then UInt8.ofNat (x.toNat + 32) else x

theorem low_bits (x : UInt8) (h1 : 65 ≤ (x.toNat : Int)) (h2 : (x.toNat : Int) ≤ 90) : bits BinOp.or IntKind.u8 (x.toNat : Int) 32 = ((low x).toNat : Int) := by
  have h : ∀ n : Nat, n < 26 → bits BinOp.or IntKind.u8 ((65 + n : Nat) : Int) 32 = ((97 + n : Nat) : Int) := by decide +kernel
  have e : x.toNat = 65 + (x.toNat - 65) := by omega
  have := h (x.toNat - 65) (by omega)
  rw [← e] at this
  rw [this]
  unfold low
  rw [if_pos (by omega)]
  simp
  omega
theorem low_same (x : UInt8) (h : ¬ (65 ≤ (x.toNat : Int) ∧ (x.toNat : Int) ≤ 90)) : low x = x := by
  unfold low
  rw [if_neg (by omega)]

/-- One round's step on the row: place k gets its small letter. -/
theorem low_step {s : ByteArray} {C : Array Value} {k : Nat} (hk : k < s.data.toList.length) (hC : ∀ j (hj : j < s.data.toList.length), C[j]? = some (.int .u8 ((if j < k then low s.data.toList[j] else s.data.toList[j]).toNat))) :
    ∀ j (hj : j < s.data.toList.length), (C.setIfInBounds k (.int .u8 (low s.data.toList[k]).toNat))[j]? = some (.int .u8 ((if j < k + 1 then low s.data.toList[j] else s.data.toList[j]).toNat)) := by
  intro j hj
  rw [Array.getElem?_setIfInBounds]
  have hsz : k < C.size := (Array.getElem?_eq_some_iff.1 (hC k hk)).1
  by_cases e : k = j
  · subst e
    rw [if_pos rfl, if_pos hsz, if_pos (by omega)]
  · rw [if_neg e, hC j hj]
    by_cases h : j < k
    · rw [if_pos h, if_pos (by omega)]
    · rw [if_neg h, if_neg (by omega)]
theorem low_stay {s : ByteArray} {C : Array Value} {k : Nat} (hk : k < s.data.toList.length) (h : low s.data.toList[k] = s.data.toList[k]) (hC : ∀ j (hj : j < s.data.toList.length), C[j]? = some (.int .u8 ((if j < k then low s.data.toList[j] else s.data.toList[j]).toNat))) :
    ∀ j (hj : j < s.data.toList.length), C[j]? = some (.int .u8 ((if j < k + 1 then low s.data.toList[j] else s.data.toList[j]).toNat)) := by
  intro j hj
  rw [hC j hj]
  by_cases e : j = k
  · subst e
    rw [if_neg (by omega), if_pos (by omega), h]
  · by_cases h : j < k
    · rw [if_pos h, if_pos (by omega)]
    · rw [if_neg h, if_neg (by omega)]

set_option maxRecDepth 100000 in
set_option maxHeartbeats 1000000 in
theorem lowered_calls (s : ByteArray) (hs : s.size ≤ 140737488351240) (w : World) :
    Calls Tryz.prog 53 #[.string s] w fun e w' => e = .returned (.string ⟨(s.data.toList.map low).toArray⟩) ∧ Below w.heap.size w w' := by
  have hW := bytesRow_row w 5 s
  have hB := bytesWorld_below w 5 s
  have hcell : ∀ j (hj : j < s.data.toList.length), (Lib.bytesCells w 5 s)[j]? = some (.int .u8 (s.data.toList[j]).toNat) := by
    intro j hj
    have h1 := Lib.bytesWorld_cell w 5 s j (by rw [Lib.size_eq]; exact hj)
    rw [hW.cell j] at h1
    rw [h1]
    simp [List.getD, List.getElem?_eq_getElem hj]
  have hsl : Hid (s.size = s.data.toList.length) := Lib.size_eq s
  have hc := Lib.run_convert_string_bytes (P := Tryz.prog) w 9 32 5 s Tryz.underlying9 Tryz.underlying32 Tryz.underlying5
  obtain ⟨W1, hW1⟩ : ∃ W1, Lib.bytesWorld w 5 s = W1 := ⟨_, rfl⟩
  obtain ⟨C0, hC0⟩ : ∃ C0, Lib.bytesCells w 5 s = C0 := ⟨_, rfl⟩
  obtain ⟨G, hG⟩ : ∃ G, grownCap w s.size 0 5 = G := ⟨_, rfl⟩
  rw [hW1] at hW hB hc
  rw [hC0] at hW hcell
  rw [hG] at hc
  have HCL := Lib.hid hcell
  clear hcell hW1 hC0 hG
  go_enter Tryz.func53, Tryz.ntmps53
  go_wp2
  go_loopw [10] (fun i wr => ∃ (k : Nat) (C : Array Value), k ≤ s.size ∧ i = .int .i64 k ∧ Row wr w.heap.size C 5 ∧ Below w.heap.size w wr ∧
      Hid (∀ j (hj : j < s.data.toList.length), C[j]? = some (.int .u8 ((if j < k then low s.data.toList[j] else s.data.toList[j]).toNat))))
    (fun i _ => s.size - (intOf i).toNat)
  case atStart => exact ⟨0, _, Nat.zero_le _, rfl, hW, hB, fun j hj => by rw [HCL.out j hj]; simp⟩
  case round =>
    obtain ⟨k, C, hk, rfl, hR, hBw, HC⟩ := hrel
    clear HCL
    by_cases hlt : k < s.size
    · have hk2 : k < s.data.toList.length := by rw [← hsl.out]; exact hlt
      have hck := HC.out k hk2
      rw [if_neg (Nat.lt_irrefl k)] at hck
      obtain ⟨x, hx⟩ : ∃ x : UInt8, s.data.toList[k] = x := ⟨_, rfl⟩
      rw [hx] at hck
      have q1 := hR.cell k
      rw [hck] at q1
      have q2 : wr.frozen? ⟨w.heap.size, k, none⟩ = false := hR.free k (by have := (Array.getElem?_eq_some_iff.1 hck).1; exact this)
      clear hck
      have HX := Lib.hid hx
      clear hx
      have hx0 : (0:Int) ≤ x.toNat := by omega
      have hx1 : (x.toNat : Int) < 256 := by have := x.toNat_lt; omega
      by_cases hA : 65 ≤ (x.toNat : Int)
      · by_cases hZ : (x.toNat : Int) ≤ 90
        · go_wp2
          go_roundw
          case rel =>
            rw [low_bits x hA hZ]
            exact ⟨k + 1, _, by omega, by go_num, hR.set k _, hBw.setCell (Nat.le_refl _) _, by have := low_step hk2 HC.out; rw [HX.out] at this; exact this⟩
          case measure => simp [intOf]; omega
        · go_wp2
          go_roundw
          case rel => exact ⟨k + 1, C, by omega, by go_num, hR, hBw, low_stay hk2 (by rw [HX.out]; exact low_same x (by omega)) HC.out⟩
          case measure => simp [intOf]; omega
      · go_wp2
        go_roundw
        case rel => exact ⟨k + 1, C, by omega, by go_num, hR, hBw, low_stay hk2 (by rw [HX.out]; exact low_same x (by omega)) HC.out⟩
        case measure => simp [intOf]; omega
    · obtain rfl : k = s.size := by omega
      have hback := run_convert_bytes_back (P := Tryz.prog) wr 32 9 5 ⟨w.heap.size, 0, none⟩ G (s.data.toList.map low) Tryz.underlying32 Tryz.underlying5 Tryz.underlying9 (fun j hj => by
        have hj2 : j < s.data.toList.length := by simpa using hj
        have hj3 : j < s.size := by rw [hsl.out]; exact hj2
        have h1 := HC.out j hj2
        rw [if_pos hj3] at h1
        have h2 := hR.cell j
        rw [h1] at h2
        rw [add_off]
        simpa using h2)
      rw [List.length_map, ← hsl.out] at hback
      go_wp2
      go_ret
      exact ⟨rfl, hBw⟩
set_option maxRecDepth 100000 in
set_option maxHeartbeats 1000000 in
theorem clowered_calls (s : ByteArray) (hs : s.size ≤ 140737488351240) (w : World) :
    Calls Tryz.prog 65 #[.string s] w fun e w' => e = .returned (.string ⟨(s.data.toList.map low).toArray⟩) ∧ Below w.heap.size w w' := by
  have hW := bytesRow_row w 5 s
  have hB := bytesWorld_below w 5 s
  have hcell : ∀ j (hj : j < s.data.toList.length), (Lib.bytesCells w 5 s)[j]? = some (.int .u8 (s.data.toList[j]).toNat) := by
    intro j hj
    have h1 := Lib.bytesWorld_cell w 5 s j (by rw [Lib.size_eq]; exact hj)
    rw [hW.cell j] at h1
    rw [h1]
    simp [List.getD, List.getElem?_eq_getElem hj]
  have hsl : Hid (s.size = s.data.toList.length) := Lib.size_eq s
  have hc := Lib.run_convert_string_bytes (P := Tryz.prog) w 9 32 5 s Tryz.underlying9 Tryz.underlying32 Tryz.underlying5
  obtain ⟨W1, hW1⟩ : ∃ W1, Lib.bytesWorld w 5 s = W1 := ⟨_, rfl⟩
  obtain ⟨C0, hC0⟩ : ∃ C0, Lib.bytesCells w 5 s = C0 := ⟨_, rfl⟩
  obtain ⟨G, hG⟩ : ∃ G, grownCap w s.size 0 5 = G := ⟨_, rfl⟩
  rw [hW1] at hW hB hc
  rw [hC0] at hW hcell
  rw [hG] at hc
  have HCL := Lib.hid hcell
  clear hcell hW1 hC0 hG
  go_enter Tryz.func65, Tryz.ntmps65
  go_wp2
  go_loopw [10] (fun i wr => ∃ (k : Nat) (C : Array Value), k ≤ s.size ∧ i = .int .i64 k ∧ Row wr w.heap.size C 5 ∧ Below w.heap.size w wr ∧
      Hid (∀ j (hj : j < s.data.toList.length), C[j]? = some (.int .u8 ((if j < k then low s.data.toList[j] else s.data.toList[j]).toNat))))
    (fun i _ => s.size - (intOf i).toNat)
  case atStart => exact ⟨0, _, Nat.zero_le _, rfl, hW, hB, fun j hj => by rw [HCL.out j hj]; simp⟩
  case round =>
    obtain ⟨k, C, hk, rfl, hR, hBw, HC⟩ := hrel
    clear HCL
    by_cases hlt : k < s.size
    · have hk2 : k < s.data.toList.length := by rw [← hsl.out]; exact hlt
      have hck := HC.out k hk2
      rw [if_neg (Nat.lt_irrefl k)] at hck
      obtain ⟨x, hx⟩ : ∃ x : UInt8, s.data.toList[k] = x := ⟨_, rfl⟩
      rw [hx] at hck
      have q1 := hR.cell k
      rw [hck] at q1
      have q2 : wr.frozen? ⟨w.heap.size, k, none⟩ = false := hR.free k (by have := (Array.getElem?_eq_some_iff.1 hck).1; exact this)
      clear hck
      have HX := Lib.hid hx
      clear hx
      have hx0 : (0:Int) ≤ x.toNat := by omega
      have hx1 : (x.toNat : Int) < 256 := by have := x.toNat_lt; omega
      by_cases hA : 65 ≤ (x.toNat : Int)
      · by_cases hZ : (x.toNat : Int) ≤ 90
        · go_wp2
          go_roundw
          case rel =>
            rw [low_bits x hA hZ]
            exact ⟨k + 1, _, by omega, by go_num, hR.set k _, hBw.setCell (Nat.le_refl _) _, by have := low_step hk2 HC.out; rw [HX.out] at this; exact this⟩
          case measure => simp [intOf]; omega
        · go_wp2
          go_roundw
          case rel => exact ⟨k + 1, C, by omega, by go_num, hR, hBw, low_stay hk2 (by rw [HX.out]; exact low_same x (by omega)) HC.out⟩
          case measure => simp [intOf]; omega
      · go_wp2
        go_roundw
        case rel => exact ⟨k + 1, C, by omega, by go_num, hR, hBw, low_stay hk2 (by rw [HX.out]; exact low_same x (by omega)) HC.out⟩
        case measure => simp [intOf]; omega
    · obtain rfl : k = s.size := by omega
      have hback := run_convert_bytes_back (P := Tryz.prog) wr 32 9 5 ⟨w.heap.size, 0, none⟩ G (s.data.toList.map low) Tryz.underlying32 Tryz.underlying5 Tryz.underlying9 (fun j hj => by
        have hj2 : j < s.data.toList.length := by simpa using hj
        have hj3 : j < s.size := by rw [hsl.out]; exact hj2
        have h1 := HC.out j hj2
        rw [if_pos hj3] at h1
        have h2 := hR.cell j
        rw [h1] at h2
        rw [add_off]
        simpa using h2)
      rw [List.length_map, ← hsl.out] at hback
      go_wp2
      go_ret
      exact ⟨rfl, hBw⟩
end Go.Proofs.YtjokcflpjpophaaGreatDoor
