/- The document's answer on hosts (drawbridgeref16): letter, labels, Host, small, Matches: what each returns, at every text that fits the form's reach. -/
import Derived.Test.YtjokcflpjpophaaGreatDoorHostLaw
namespace Go.Proofs.YtjokcflpjpophaaGreatDoor
open Go.RowKit

set_option maxRecDepth 100000 in
set_option maxHeartbeats 2000000 in
theorem letter_calls (b : UInt8) (w : World) : Calls Tryz.prog 103 #[.int .u8 (b.toNat : Int)] w fun e w' => e = .returned (.bool (letter b)) ∧ w = w' := by
  have h0 : (0 : Int) ≤ b.toNat := by omega
  have h1 : (b.toNat : Int) < 256 := by have := b.toNat_lt; omega
  by_cases h97 : 97 ≤ (b.toNat : Int)
  · have c4 : ((b.toNat : Int) == 45) = false := by simp; omega
    by_cases h122 : (b.toNat : Int) ≤ 122
    · have HL : Hid (letter b = true) := Lib.hid (by simp [letter]; omega)
      go_enter Tryz.func103, Tryz.ntmps103
      go_wp2
      go_ret
      exact ⟨by rw [HL.out]; first | rfl | (simp; omega), rfl⟩
    · have HL : Hid (letter b = false) := Lib.hid (by simp [letter]; omega)
      go_enter Tryz.func103, Tryz.ntmps103
      go_wp2
      go_ret
      exact ⟨by rw [HL.out]; first | rfl | (simp; omega), rfl⟩
  · by_cases h65 : 65 ≤ (b.toNat : Int)
    · have c4 : ((b.toNat : Int) == 45) = false := by simp; omega
      by_cases h90 : (b.toNat : Int) ≤ 90
      · have HL : Hid (letter b = true) := Lib.hid (by simp [letter]; omega)
        go_enter Tryz.func103, Tryz.ntmps103
        go_wp2
        go_ret
        exact ⟨by rw [HL.out]; first | rfl | (simp; omega), rfl⟩
      · have HL : Hid (letter b = false) := Lib.hid (by simp [letter]; omega)
        go_enter Tryz.func103, Tryz.ntmps103
        go_wp2
        go_ret
        exact ⟨by rw [HL.out]; first | rfl | (simp; omega), rfl⟩
    · by_cases h48 : 48 ≤ (b.toNat : Int)
      · have c4 : ((b.toNat : Int) == 45) = false := by simp; omega
        by_cases h57 : (b.toNat : Int) ≤ 57
        · have HL : Hid (letter b = true) := Lib.hid (by simp [letter]; omega)
          go_enter Tryz.func103, Tryz.ntmps103
          go_wp2
          go_ret
          exact ⟨by rw [HL.out]; first | rfl | (simp; omega), rfl⟩
        · have HL : Hid (letter b = false) := Lib.hid (by simp [letter]; omega)
          go_enter Tryz.func103, Tryz.ntmps103
          go_wp2
          go_ret
          exact ⟨by rw [HL.out]; first | rfl | (simp; omega), rfl⟩
      · by_cases h45 : (b.toNat : Int) = 45
        · have c4 : ((b.toNat : Int) == 45) = true := by simp; omega
          have HL : Hid (letter b = true) := Lib.hid (by simp [letter]; omega)
          clear h45
          go_enter Tryz.func103, Tryz.ntmps103
          go_wp2
          go_ret
          exact ⟨by rw [HL.out]; first | rfl | (simp; omega), rfl⟩
        · have c4 : ((b.toNat : Int) == 45) = false := by simp; omega
          have HL : Hid (letter b = false) := Lib.hid (by simp [letter]; omega)
          go_enter Tryz.func103, Tryz.ntmps103
          go_wp2
          go_ret
          exact ⟨by rw [HL.out]; first | rfl | (simp; omega), rfl⟩

theorem endOk_eq (s : ByteArray) (f i : Nat) (hf : f < s.size) (hi : i - 1 < s.size) : endOk s.data.toList f i = (decide (1 ≤ i - f) && decide (i - f ≤ 63) && !((s[f].toNat : Int) == 45) && !((s[i - 1].toNat : Int) == 45)) := by
  unfold endOk
  rw [getD_byte s f hf, getD_byte s (i - 1) hi, show (45 : UInt8) = UInt8.ofNat 45 from rfl, byte_is s[f] 45 (by omega), byte_is s[i - 1] 45 (by omega)]
  rfl
theorem getD_int (s : ByteArray) (i : Nat) (hi : i < s.size) : (s.data.toList.getD i 0) = s[i] := getD_byte s i hi

set_option maxRecDepth 100000 in
set_option maxHeartbeats 4000000 in
theorem rlabels_calls (s : ByteArray) (hs : s.size ≤ 140737488351240) (w : World) :
    Calls Tryz.prog 79 #[.string s] w fun e w' => e = .returned (.int .i64 (refCount s.data.toList)) ∧ w = w' := by
  by_cases h1 : 1 ≤ s.size
  · by_cases h2 : s.size ≤ 253
    · have e1 : decide ((s.size : Int) < 1) = false := by simp; omega
      have e2 : decide (253 < (s.size : Int)) = false := by simp; omega
      have HS : Hid (s.data.toList.length = s.size) := (Lib.size_eq s).symm
      go_enter Tryz.func79, Tryz.ntmps79
      go_wp2
      go_loop [3, 4, 5] (fun n f i => ∃ (n' f' i' : Nat), n = .int .i64 n' ∧ f = .int .i64 f' ∧ i = .int .i64 i' ∧ i' ≤ s.size + 1 ∧ n' ≤ s.size + 1 ∧ f' ≤ s.size + 1 ∧ LabInv s.data.toList n' f' i')
        (fun _ _ i => (s.size + 1 - (intOf i).toNat))
      case atStart => exact ⟨0, 0, 0, rfl, rfl, rfl, by omega, by omega, by omega, labInv_start _⟩
      case round =>
        obtain ⟨n, f, i, rfl, rfl, rfl, hi, hn, hf, hL⟩ := hrel
        by_cases hend : i ≤ s.size
        · have hfi := labInv_from hL (by rw [HS.out]; exact hend)
          by_cases hlt : i < s.size
          · have hx := getD_byte s i hlt
            by_cases hdot : (s[i].toNat : Int) = 46
            · have d1 : ((s[i].toNat : Int) == 46) = true := by simp [hdot]
              have d2 : ((s[i].toNat : Int) != 46) = false := by simp [hdot]
              have d3 : (s.data.toList.getD i 0 == 46) = true := by rw [hx, show (46 : UInt8) = UInt8.ofNat 46 from rfl, byte_is _ _ (by omega)]; exact d1
              clear hdot hx
              have hie : i = s.data.toList.length ∨ (i < s.data.toList.length ∧ (s.data.toList.getD i 0 == 46) = true) := .inr ⟨by rw [HS.out]; exact hlt, d3⟩
              have HI := Lib.hid hie
              clear hie
              by_cases t1 : 1 ≤ i - f
              · have hfs : f < s.size := by omega
                have his : i - 1 < s.size := by omega
                have hi1 : (1 : Int) ≤ (i : Int) := by omega
                have hok := endOk_eq s f i hfs his
                have HK := Lib.hid hok
                clear hok
                have b1 : decide ((i : Int) - (f : Int) < 1) = false := by simp; omega
                by_cases t2 : i - f ≤ 63
                · have b2 : decide (63 < (i : Int) - (f : Int)) = false := by simp; omega
                  by_cases t3 : (s[f].toNat : Int) = 45
                  · have b3 : ((s[f].toNat : Int) == 45) = true := by simp [t3]
                    have HZ : Hid (refCount s.data.toList = 0) := Lib.hid (labInv_endbad hL HI.out (by rw [HK.out, b3]; simp))
                    clear t3
                    go_wp2
                    go_ret
                    exact ⟨by rw [HZ.out]; rfl, rfl⟩
                  · have b3 : ((s[f].toNat : Int) == 45) = false := by simpa using t3
                    by_cases t4 : (s[i - 1].toNat : Int) = 45
                    · have b4 : ((s[i - 1].toNat : Int) == 45) = true := by simp [t4]
                      have HZ : Hid (refCount s.data.toList = 0) := Lib.hid (labInv_endbad hL HI.out (by rw [HK.out, b4]; simp))
                      clear t4 t3
                      go_wp2
                      go_ret
                      exact ⟨by rw [HZ.out]; rfl, rfl⟩
                    · have b4 : ((s[i - 1].toNat : Int) == 45) = false := by simpa using t4
                      have hn := labInv_end hL HI.out (by rw [HK.out, b3, b4]; simp; omega)
                      have hnc := labInv_count hn
                      rw [HS.out] at hnc
                      have HN := Lib.hid hn
                      clear t3 t4 hL hn
                      go_wp2
                      go_round
                      case rel => exact ⟨n + 1, i + 1, i + 1, by go_num, by go_num, by go_num, by omega, by omega, by omega, HN.out⟩
                      case measure => simp [intOf]; omega
                · have b2 : decide (63 < (i : Int) - (f : Int)) = true := by simp; omega
                  have HZ : Hid (refCount s.data.toList = 0) := Lib.hid (labInv_endbad hL HI.out (by rw [HK.out]; simp; omega))
                  go_wp2
                  go_ret
                  exact ⟨by rw [HZ.out]; rfl, rfl⟩
              · have b1 : decide ((i : Int) - (f : Int) < 1) = true := by simp; omega
                have HZ : Hid (refCount s.data.toList = 0) := Lib.hid (labInv_endbad hL HI.out (by unfold endOk; simp; omega))
                go_wp2
                go_ret
                exact ⟨by rw [HZ.out]; rfl, rfl⟩
            · have d1 : ((s[i].toNat : Int) == 46) = false := by simpa using hdot
              have d2 : ((s[i].toNat : Int) != 46) = true := by simpa using hdot
              have d3 : ¬ (s.data.toList.getD i 0 == 46) = true := by rw [hx, show (46 : UInt8) = UInt8.ofNat 46 from rfl, byte_is _ _ (by omega)]; simpa using hdot
              have HD := Lib.hid d3
              cases hlet : letter s[i] with
              | true =>
                have hn := labInv_letter hL (by rw [HS.out]; exact hlt) (by rw [hx]; exact hlet)
                have HN := Lib.hid hn
                clear hdot hx d3 hn hL
                go_wp2_with (go_at_call 103; refine (letter_calls _ _).mono ?_; rintro e w' ⟨rfl, rfl⟩)
                go_round
                case rel => exact ⟨n, f, i + 1, rfl, rfl, by go_num, by omega, by omega, by omega, HN.out⟩
                case measure => simp [intOf]; omega
              | false =>
                have HZ : Hid (refCount s.data.toList = 0) := Lib.hid (labInv_bad hL (by rw [HS.out]; exact hlt) d3 (by rw [hx]; exact hlet))
                clear hdot hx d3
                go_wp2_with (go_at_call 103; refine (letter_calls _ _).mono ?_; rintro e w' ⟨rfl, rfl⟩)
                go_ret
                exact ⟨by rw [HZ.out]; rfl, rfl⟩
          · have hlt2 : decide ((i : Int) < (s.size : Int)) = false := by simp; omega
            have hie : i = s.data.toList.length ∨ (i < s.data.toList.length ∧ (s.data.toList.getD i 0 == 46) = true) := .inl (by rw [HS.out]; omega)
            have HI := Lib.hid hie
            clear hie
            by_cases t1 : 1 ≤ i - f
            · have hfs : f < s.size := by omega
              have his : i - 1 < s.size := by omega
              have hi1 : (1 : Int) ≤ (i : Int) := by omega
              have hok := endOk_eq s f i hfs his
              have HK := Lib.hid hok
              clear hok
              have b1 : decide ((i : Int) - (f : Int) < 1) = false := by simp; omega
              by_cases t2 : i - f ≤ 63
              · have b2 : decide (63 < (i : Int) - (f : Int)) = false := by simp; omega
                by_cases t3 : (s[f].toNat : Int) = 45
                · have b3 : ((s[f].toNat : Int) == 45) = true := by simp [t3]
                  have HZ : Hid (refCount s.data.toList = 0) := Lib.hid (labInv_endbad hL HI.out (by rw [HK.out, b3]; simp))
                  clear t3
                  go_wp2
                  go_ret
                  exact ⟨by rw [HZ.out]; rfl, rfl⟩
                · have b3 : ((s[f].toNat : Int) == 45) = false := by simpa using t3
                  by_cases t4 : (s[i - 1].toNat : Int) = 45
                  · have b4 : ((s[i - 1].toNat : Int) == 45) = true := by simp [t4]
                    have HZ : Hid (refCount s.data.toList = 0) := Lib.hid (labInv_endbad hL HI.out (by rw [HK.out, b4]; simp))
                    clear t4 t3
                    go_wp2
                    go_ret
                    exact ⟨by rw [HZ.out]; rfl, rfl⟩
                  · have b4 : ((s[i - 1].toNat : Int) == 45) = false := by simpa using t4
                    have hn := labInv_end hL HI.out (by rw [HK.out, b3, b4]; simp; omega)
                    have hnc := labInv_count hn
                    rw [HS.out] at hnc
                    have HN := Lib.hid hn
                    clear t3 t4 hL hn
                    go_wp2
                    go_round
                    case rel => exact ⟨n + 1, i + 1, i + 1, by go_num, by go_num, by go_num, by omega, by omega, by omega, HN.out⟩
                    case measure => simp [intOf]; omega
              · have b2 : decide (63 < (i : Int) - (f : Int)) = true := by simp; omega
                have HZ : Hid (refCount s.data.toList = 0) := Lib.hid (labInv_endbad hL HI.out (by rw [HK.out]; simp; omega))
                go_wp2
                go_ret
                exact ⟨by rw [HZ.out]; rfl, rfl⟩
            · have b1 : decide ((i : Int) - (f : Int) < 1) = true := by simp; omega
              have HZ : Hid (refCount s.data.toList = 0) := Lib.hid (labInv_endbad hL HI.out (by unfold endOk; simp; omega))
              go_wp2
              go_ret
              exact ⟨by rw [HZ.out]; rfl, rfl⟩
        · have hfin : n = refCount s.data.toList := by
            have : i = s.data.toList.length + 1 := by rw [HS.out]; omega
            subst this
            exact labInv_done hL (by rw [HS.out]; exact h1) (by rw [HS.out]; exact h2)
          have HF := Lib.hid hfin
          clear hfin
          go_wp2
          go_ret
          exact ⟨by rw [← HF.out]; rfl, rfl⟩
    · have hz : refCount s.data.toList = 0 := by unfold refCount; rw [← Lib.size_eq, if_neg (by omega)]
      have HZ := Lib.hid hz
      have e1 : decide ((s.size : Int) < 1) = false := by simp; omega
      clear hz
      go_enter Tryz.func79, Tryz.ntmps79
      go_wp2
      go_ret
      exact ⟨by rw [HZ.out]; rfl, rfl⟩
  · have hz : refCount s.data.toList = 0 := by unfold refCount; rw [← Lib.size_eq, if_neg (by omega)]
    have HZ := Lib.hid hz
    clear hz
    go_enter Tryz.func79, Tryz.ntmps79
    go_wp2
    go_ret
    exact ⟨by rw [HZ.out]; rfl, rfl⟩

/-- drawbridgeref16.Host. -/
theorem rHost_calls (s : ByteArray) (hs : s.size ≤ 140737488351240) (w : World) :
    Calls Tryz.prog 55 #[.string s] w fun e w' => e = .returned (.bool (decide (0 < refCount s.data.toList))) ∧ w = w' := by
  go_enter Tryz.func55, Tryz.ntmps55
  go_wp2_with (go_at_call 79; refine (rlabels_calls s hs _).mono ?_; rintro e w' ⟨rfl, rfl⟩)
  go_ret
  exact ⟨by simp, rfl⟩

theorem low_add (x : UInt8) (h1 : 65 ≤ (x.toNat : Int)) (h2 : (x.toNat : Int) ≤ 90) : ((low x).toNat : Int) = (x.toNat : Int) + 32 := by
  unfold low
  rw [if_pos (by omega)]
  simp
  omega

set_option maxRecDepth 100000 in
set_option maxHeartbeats 1000000 in
theorem rsmall_calls (s : ByteArray) (hs : s.size ≤ 140737488351240) (w : World) :
    Calls Tryz.prog 80 #[.string s] w fun e w' => e = .returned (.string ⟨(s.data.toList.map low).toArray⟩) ∧ Below w.heap.size w w' := by
  have hW := bytesRow_row w 5 s
  have hB := bytesWorld_below w 5 s
  have hcell : ∀ j (hj : j < s.data.toList.length), (Lib.bytesCells w 5 s)[j]? = some (.int .u8 (s.data.toList[j]).toNat) := by
    intro j hj
    have h1 := Lib.bytesWorld_cell w 5 s j (by rw [Lib.size_eq]; exact hj)
    rw [hW.cell j] at h1
    rw [h1]
    simp [List.getD, List.getElem?_eq_getElem hj]
  have hsl : Hid (s.size = s.data.toList.length) := Lib.size_eq s
  have hc := Lib.run_convert_string_bytes (P := Tryz.prog) w 9 32 5 s Tryz.underlying9 Tryz.underlying32 Tryz.underlying5
  obtain ⟨W1, hW1⟩ : ∃ W1, Lib.bytesWorld w 5 s = W1 := ⟨_, rfl⟩
  obtain ⟨C0, hC0⟩ : ∃ C0, Lib.bytesCells w 5 s = C0 := ⟨_, rfl⟩
  obtain ⟨G, hG⟩ : ∃ G, grownCap w s.size 0 5 = G := ⟨_, rfl⟩
  rw [hW1] at hW hB hc
  rw [hC0] at hW hcell
  rw [hG] at hc
  have HCL := Lib.hid hcell
  clear hcell hW1 hC0 hG
  go_enter Tryz.func80, Tryz.ntmps80
  go_wp2
  go_loopw [4] (fun i wr => ∃ (k : Nat) (C : Array Value), k ≤ s.size ∧ i = .int .i64 k ∧ Row wr w.heap.size C 5 ∧ Below w.heap.size w wr ∧
      Hid (∀ j (hj : j < s.data.toList.length), C[j]? = some (.int .u8 ((if j < k then low s.data.toList[j] else s.data.toList[j]).toNat))))
    (fun i _ => s.size - (intOf i).toNat)
  case atStart => exact ⟨0, _, Nat.zero_le _, rfl, hW, hB, fun j hj => by rw [HCL.out j hj]; simp⟩
  case round =>
    obtain ⟨k, C, hk, rfl, hR, hBw, HC⟩ := hrel
    clear HCL
    by_cases hlt : k < s.size
    · have hk2 : k < s.data.toList.length := by rw [← hsl.out]; exact hlt
      have hck := HC.out k hk2
      rw [if_neg (Nat.lt_irrefl k)] at hck
      obtain ⟨x, hx⟩ : ∃ x : UInt8, s.data.toList[k] = x := ⟨_, rfl⟩
      rw [hx] at hck
      have q1 := hR.cell k
      rw [hck] at q1
      have q2 : wr.frozen? ⟨w.heap.size, k, none⟩ = false := hR.free k (by have := (Array.getElem?_eq_some_iff.1 hck).1; exact this)
      clear hck
      have HX := Lib.hid hx
      clear hx
      have hx0 : (0:Int) ≤ x.toNat := by omega
      have hx1 : (x.toNat : Int) < 256 := by have := x.toNat_lt; omega
      by_cases hA : 65 ≤ (x.toNat : Int)
      · by_cases hZ : (x.toNat : Int) ≤ 90
        · go_wp2
          go_roundw
          case rel =>
            rw [← low_add x hA hZ]
            exact ⟨k + 1, _, by omega, by go_num, hR.set k _, hBw.setCell (Nat.le_refl _) _, by have := low_step hk2 HC.out; rw [HX.out] at this; exact this⟩
          case measure => simp [intOf]; omega
        · go_wp2
          go_roundw
          case rel => exact ⟨k + 1, C, by omega, by go_num, hR, hBw, low_stay hk2 (by rw [HX.out]; exact low_same x (by omega)) HC.out⟩
          case measure => simp [intOf]; omega
      · go_wp2
        go_roundw
        case rel => exact ⟨k + 1, C, by omega, by go_num, hR, hBw, low_stay hk2 (by rw [HX.out]; exact low_same x (by omega)) HC.out⟩
        case measure => simp [intOf]; omega
    · obtain rfl : k = s.size := by omega
      have hback := run_convert_bytes_back (P := Tryz.prog) wr 32 9 5 ⟨w.heap.size, 0, none⟩ G (s.data.toList.map low) Tryz.underlying32 Tryz.underlying5 Tryz.underlying9 (fun j hj => by
        have hj2 : j < s.data.toList.length := by simpa using hj
        have hj3 : j < s.size := by rw [hsl.out]; exact hj2
        have h1 := HC.out j hj2
        rw [if_pos hj3] at h1
        have h2 := hR.cell j
        rw [h1] at h2
        rw [add_off]
        simpa using h2)
      rw [List.length_map, ← hsl.out] at hback
      go_wp2
      go_ret
      exact ⟨rfl, hBw⟩
end Go.Proofs.YtjokcflpjpophaaGreatDoor
