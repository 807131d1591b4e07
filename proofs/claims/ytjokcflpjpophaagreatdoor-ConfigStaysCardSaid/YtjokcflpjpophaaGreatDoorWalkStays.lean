/- The walk of the law ConfigStays. Conditions: the library's variables are there; the texts within the reach. -/
import Derived.Test.YtjokcflpjpophaaGreatDoorSame
import Derived.Test.YtjokcflpjpophaaGreatDoorHead
import Derived.Deep.Cut
import Derived.Deep.CutBlock
namespace Go.Proofs.YtjokcflpjpophaaGreatDoor
open Go.RowKit
attribute [local go_sem ↓] Go.wp_at_zero Go.wp_at_succ

/-- No end of line within. -/
def NoNl (x : ByteArray) : Prop := ∀ j, j < x.size → ¬ x.data.toList.getD j 0 = 10
theorem NoNl.mem {x : ByteArray} (h : NoNl x) : ¬ (10 : UInt8) ∈ x.data.toList := fun hm => by
  obtain ⟨j, hj, e⟩ := List.getElem_of_mem hm
  have hl : x.data.toList.length = x.size := (Lib.size_eq x).symm
  refine h j (by omega) ?_
  rw [List.getD_eq_getElem?_getD, List.getElem?_eq_getElem hj, e]
  rfl
def pick3 (a b c : ByteArray) : Nat → ByteArray
  | 0 => a
  | 1 => b
  | _ => c
/-- What the outer loop keeps, what the inner one. -/
def Rel3 (a b c : ByteArray) (W : World) (i : Value) (wr : World) : Prop := ∃ k : Nat, i = .int .i64 k ∧ k ≤ 3 ∧ wr = W ∧ ∀ j, j < k → NoNl (pick3 a b c j)
def RelN (x : ByteArray) (W : World) (i : Value) (wr : World) : Prop := ∃ k : Nat, i = .int .i64 k ∧ k ≤ x.size ∧ wr = W ∧ ∀ j, j < k → ¬ x.data.toList.getD j 0 = 10

theorem runL_bound : ∀ (l : List ByteArray) (n : Int) (st : St) (k e : Int), runL act l n st = .error (k, e) → n < k ∧ k ≤ n + l.length
  | [], n, st, k, e, h => by cases h
  | s :: l, n, st, k, e, h => by
    simp only [runL] at h
    cases hr : (act s).run st with
    | error e' =>
      rw [hr] at h
      cases h
      simp only [List.length_cons]
      omega
    | ok st' =>
      rw [hr] at h
      have := runL_bound l (n + 1) st' k e h
      simp only [List.length_cons]
      omega
theorem parse_bound (s : ByteArray) (hs : s.size ≤ 16384) : 0 ≤ (parseV s).2.1 ∧ (parseV s).2.1 ≤ 16386 := by
  unfold parseV
  rw [if_neg (by omega)]
  cases h : runL act (pieces 10 s) 0 st0 with
  | ok st => exact ⟨Int.le_refl _, by show (0 : Int) ≤ _; decide⟩
  | error x =>
    obtain ⟨k, e⟩ := x
    have h1 := runL_bound _ _ _ _ _ h
    have h2 : (pieces 10 s).length ≤ s.size + 1 := by
      unfold pieces
      rw [List.length_map]
      have h3 := cuts_sum 10 s.data.toList
      have h4 : s.data.toList.length = s.size := (Lib.size_eq s).symm
      omega
    show 0 ≤ k ∧ k ≤ 16386
    omega

theorem bytes_there (w : World) (s : ByteArray) : ∀ j (hj : j < s.size), (Lib.bytesWorld w 5 s).cell? ⟨w.heap.size, j, none⟩ = some (.int .u8 (s[j].toNat : Int)) := fun j hj => by
  have hl : s.data.toList.length = s.size := (Lib.size_eq s).symm
  rw [Lib.bytesWorld_cell w 5 s j hj, List.getD_eq_getElem?_getD, List.getElem?_eq_getElem (by omega)]
  rfl
theorem many_is (s : ByteArray) : ∃ y, ∀ w, Calls Tryz.prog 10 #[.string s] w fun e w' => e = .returned (.bool y) ∧ w = w' := by
  cases h1 : (s.toList == [104, 111, 115, 116]) with
  | true =>
    refine ⟨true, fun w => ?_⟩
    go_enter Tryz.func10, Tryz.ntmps10
    go_wp2
    go_ret
    exact ⟨rfl, rfl⟩
  | false =>
    cases h2 : (s.toList == [98, 97, 99, 107, 101, 110, 100]) with
    | true =>
      refine ⟨true, fun w => ?_⟩
      go_enter Tryz.func10, Tryz.ntmps10
      go_wp2
      go_ret
      exact ⟨rfl, rfl⟩
    | false =>
      refine ⟨(s.toList == [114, 111, 117, 116, 101]), fun w => ?_⟩
      go_enter Tryz.func10, Tryz.ntmps10
      go_wp2
      go_ret
      exact ⟨rfl, rfl⟩
theorem wordT_eq {a b : ByteArray} (h : wordL a = wordL b) : ((wordT a).toList == (wordT b).toList) = true := by
  unfold wordT
  rw [h]
  exact beq_self_eq_true _
/-- What both texts begin with. -/
def baseB : ByteArray := ⟨#[104, 111, 115, 116, 32, 97, 46, 98, 32, 108, 101, 97, 102, 32, 107, 101, 121, 10, 98, 97, 99, 107, 101, 110, 100, 32, 111, 110, 101, 32, 49, 32, 97, 46, 98, 32, 114, 111, 111, 116, 10]⟩
/-- The law's second text. -/
def TwoOK (a b note two : ByteArray) (turned : Bool) : Prop := two.size ≤ 16384 ∧
  (turned = true → two.data.toList = line1 ++ 10 :: (line2 ++ 10 :: (b.data.toList ++ 10 :: ((35 :: note.data.toList) ++ 10 :: ([] ++ 10 :: (a.data.toList ++ 10 :: [])))))) ∧
  (turned = false → two.data.toList = (35 :: note.data.toList) ++ 10 :: (line1 ++ 10 :: (line2 ++ 10 :: (a.data.toList ++ 10 :: ([] ++ 10 :: (b.data.toList ++ 10 :: []))))))
theorem two_turned (a b note : ByteArray) (h : ¬ 16284 < a.size + b.size + note.size) : TwoOK a b note (baseB ++ b ++ ⟨#[10, 35]⟩ ++ note ++ ⟨#[10, 10]⟩ ++ a ++ ⟨#[10]⟩) true := by
  refine ⟨?_, fun _ => ?_, fun h => (by cases h)⟩
  · simp only [ByteArray.size_append]
    have e1 : baseB.size = 41 := rfl
    have e2 : ByteArray.size ⟨#[10, 35]⟩ = 2 := rfl
    have e3 : ByteArray.size ⟨#[10, 10]⟩ = 2 := rfl
    have e4 : ByteArray.size ⟨#[10]⟩ = 1 := rfl
    omega
  · simp [ByteArray.data_append, baseB, line1, line2]
theorem two_same (a b note : ByteArray) (h : ¬ 16284 < a.size + b.size + note.size) : TwoOK a b note (⟨#[35]⟩ ++ note ++ ⟨#[10]⟩ ++ baseB ++ a ++ ⟨#[10, 10]⟩ ++ b ++ ⟨#[10]⟩) false := by
  refine ⟨?_, fun h => (by cases h), fun _ => ?_⟩
  · simp only [ByteArray.size_append]
    have e1 : baseB.size = 41 := rfl
    have e2 : ByteArray.size ⟨#[35]⟩ = 1 := rfl
    have e3 : ByteArray.size ⟨#[10, 10]⟩ = 2 := rfl
    have e4 : ByteArray.size ⟨#[10]⟩ = 1 := rfl
    omega
  · simp [ByteArray.data_append, baseB, line1, line2]
theorem one_is (a b : ByteArray) : (baseB ++ a ++ ⟨#[10]⟩ ++ b : ByteArray).data.toList = line1 ++ 10 :: (line2 ++ 10 :: (a.data.toList ++ 10 :: b.data.toList)) := by
  simp [ByteArray.data_append, baseB, line1, line2]
theorem one_size (a b : ByteArray) : (baseB ++ a ++ ⟨#[10]⟩ ++ b : ByteArray).size = a.size + b.size + 42 := by
  simp only [ByteArray.size_append]
  have e1 : baseB.size = 41 := rfl
  have e4 : ByteArray.size ⟨#[10]⟩ = 1 := rfl
  omega

set_option maxRecDepth 100000 in
set_option maxHeartbeats 4000000 in
theorem walk_stays (a b note : ByteArray) (turned : Bool) (w : World) (hL : LaidW w) (ha : a.size ≤ 140737488351240) (hb : b.size ≤ 140737488351240) (hn : note.size ≤ 140737488351240) :
    Calls Tryz.prog 3 #[.string a, .string b, .string note, .bool turned] w fun e w' => e = .returned (.bool true) ∧ Below w.heap.size w w' := by
  obtain ⟨m, hm⟩ := hL.mx
  have HH := Lib.hid (head_calls m w (by have := hL.size; omega) hm)
  have HL := Lib.hid hL
  clear hL hm
  go_enter Tryz.func3, Tryz.ntmps3
  go_wp2_with (go_at_call 6; refine HH.out.mono ?_; rintro e w1 ⟨rfl, B1⟩)
  obtain ⟨W1, hW1⟩ : ∃ W, w1.alloc (.cells #[.string a, .string b, .string note] 9) = W := ⟨_, rfl⟩
  have b1 : Blk W1 w1.heap.size #[.string a, .string b, .string note] 9 := by rw [← hW1]; exact Blk.new _ _ _
  have y1 : Below w.heap.size w W1 := by rw [← hW1]; exact B1.alloc B1.size _
  have hcell : ∀ k, k < 3 → W1.cell? ⟨w1.heap.size, k, none⟩ = some (.string (pick3 a b note k)) := fun k hk => by
    rw [b1.cell]
    match k, hk with
    | 0, _ | 1, _ | 2, _ => rfl
  have hpk : ∀ k, (pick3 a b note k).size ≤ 140737488351240 := fun k => by
    match k with
    | 0 => exact ha
    | 1 => exact hb
    | k + 2 => exact hn
  have HC := Lib.hid (And.intro hcell hpk)
  have HY := Lib.hid y1
  rw [hW1]
  clear hW1 b1 y1 hcell hpk B1
  go_loopw [30] (fun i wr => Rel3 a b note W1 i wr) (fun i _ => 3 - (intOf i).toNat)
  case atStart => exact ⟨0, rfl, by decide, rfl, fun j h => absurd h (Nat.not_lt_zero _)⟩
  case round =>
    obtain ⟨k, rfl, hk, rfl, hno⟩ := hrel
    have HN := Lib.hid hno
    clear hno
    by_cases hk3 : k < 3
    · have hc := HC.out.1 k hk3
      have hs := HC.out.2 k
      obtain ⟨x, hx⟩ : ∃ x, pick3 a b note k = x := ⟨_, rfl⟩
      rw [hx] at hc hs
      have HX := Lib.hid hx
      clear hx
      go_wp2_with fail
      go_loopw [12] (fun i wv => RelN x wr i wv) (fun i _ => x.size - (intOf i).toNat)
      case atStart => exact ⟨0, rfl, Nat.zero_le _, rfl, fun j h => absurd h (Nat.not_lt_zero _)⟩
      case round =>
        obtain ⟨j, rfl, hj, rfl, hno⟩ := hrel
        have HM := Lib.hid hno
        clear hno
        by_cases hlt : j < x.size
        · have hgd : x.data.toList.getD j 0 = x[j] := by
            have hl : x.data.toList.length = x.size := (Lib.size_eq x).symm
            rw [List.getD_eq_getElem?_getD, List.getElem?_eq_getElem (by omega)]
            rfl
          have HG := Lib.hid hgd
          clear hgd
          cases hb10 : ((x[j].toNat : Int) == 10) with
          | true =>
            as_aux_lemma =>
              go_wp2
              go_ret
              exact ⟨rfl, HY.out⟩
          | false =>
            have h10 : ¬ x[j] = 10 := fun e => by rw [e] at hb10; exact absurd hb10 (by decide)
            have H10 := Lib.hid h10
            clear h10
            go_wp2
            go_roundw
            case rel =>
              refine ⟨j + 1, by simp, by omega, rfl, fun q hq => ?_⟩
              rcases Nat.lt_or_ge q j with h | h
              · exact HM.out q h
              · obtain rfl : q = j := by omega
                rw [HG.out]; exact H10.out
            case measure => simp [intOf]; omega
        · go_wp2
          go_roundw
          case rel =>
            refine ⟨k + 1, by simp, by omega, rfl, fun q hq => ?_⟩
            rcases Nat.lt_or_ge q k with h | h
            · exact HN.out q h
            · obtain rfl : q = k := by omega
              rw [HX.out]
              exact fun i hi => HM.out i (by omega)
          case measure => simp [intOf]; omega
    · go_upto_region 11 with (fail)
      obtain rfl : k = 3 := by omega
      have na := (HN.out 0 (by decide)).mem
      have nb := (HN.out 1 (by decide)).mem
      have nn := (HN.out 2 (by decide)).mem
      change ¬ (10 : UInt8) ∈ a.data.toList at na
      change ¬ (10 : UInt8) ∈ b.data.toList at nb
      change ¬ (10 : UInt8) ∈ note.data.toList at nn
      have HNL := Lib.hid (And.intro na (And.intro nb nn))
      clear na nb nn HN hk hk3 HC
      by_cases hbig : 16284 < a.size + b.size + note.size
      · have hd : decide (16284 < (a.size : Int) + (b.size : Int) + (note.size : Int)) = true := decide_eq_true (by omega)
        as_aux_lemma =>
          go_wp2
          go_ret
          exact ⟨rfl, HY.out⟩
      · have hd : decide (16284 < (a.size : Int) + (b.size : Int) + (note.size : Int)) = false := decide_eq_false (by omega)
        go_upto_if 73 with (fail)
        go_cut [15] from 24 (fun v wc => (∃ two, v = .string two ∧ TwoOK a b note two turned) ∧ wc = wr)
        case first =>
          as_aux_lemma =>
            cases turned with
            | true =>
              go_wp2
              all_goals go_meet
              exact ⟨⟨_, rfl, two_turned a b note hbig⟩, rfl⟩
            | false =>
              go_wp2
              all_goals go_meet
              exact ⟨⟨_, rfl, two_same a b note hbig⟩, rfl⟩
        case rest =>
          obtain ⟨⟨two, rfl, h2⟩, rfl⟩ := hcut
          obtain ⟨one, ho⟩ : ∃ one, (⟨#[104, 111, 115, 116, 32, 97, 46, 98, 32, 108, 101, 97, 102, 32, 107, 101, 121, 10, 98, 97, 99, 107, 101, 110, 100, 32, 111, 110, 101, 32, 49, 32, 97, 46, 98, 32, 114, 111, 111, 116, 10]⟩ ++ a ++ ⟨#[10]⟩ ++ b : ByteArray) = one := ⟨_, rfl⟩
          have o1 : one.data.toList = line1 ++ 10 :: (line2 ++ 10 :: (a.data.toList ++ 10 :: b.data.toList)) := by rw [← ho]; exact one_is a b
          have o2 : one.size ≤ 16384 := by
            have := one_size a b
            rw [← ho]
            show (baseB ++ a ++ ⟨#[10]⟩ ++ b).size ≤ 16384
            omega
          rw [ho]
          have H2 := Lib.hid (And.intro h2 o1)
          have t2 : two.size ≤ 16384 := h2.1
          clear h2 o1 ho hd
          have BY := HY.out
          have hLw : LaidW wc := HL.out.below BY HL.out.size
          have hcv := fun (W : World) (x : ByteArray) => Lib.run_convert_string_bytes (P := Tryz.prog) W 9 32 5 x Tryz.underlying9 Tryz.underlying32 Tryz.underlying5
          obtain ⟨V1, hV1⟩ : ∃ V, Lib.bytesWorld wc 5 one = V := ⟨_, rfl⟩
          have BV1 : Below wc.heap.size wc V1 := by rw [← hV1]; exact bytesWorld_below _ _ _
          have hP1 := fun cap => parse_calls wc.heap.size cap one V1 o2 (by rw [← hV1, Lib.bytesWorld_size]; omega) (by rw [← hV1]; exact bytes_there _ _) (hLw.below BV1 hLw.size)
          obtain ⟨r1, hr1⟩ : ∃ r, parseV one = r := ⟨_, rfl⟩
          have hb1 := parse_bound one o2
          rw [hr1] at hP1 hb1
          have HP1 := Lib.hid hP1
          have HV1 := Lib.hid hV1
          have HB1 := Lib.hid (BY.trans (BV1.mono BY.size))
          clear hP1 hV1 BV1 hLw BY
          go_wp2_with fail
          rw [HV1.out]
          refine (HP1.out _).mono ?_
          rintro e w2 ⟨B2, C1, rfl, hC1⟩
          obtain ⟨A1, c1, A2, c2, A3, c3, hs, hI⟩ := conf_is hC1
          obtain rfl := hI.C
          have HI := Lib.hid hI
          have HB2 := Lib.hid (HB1.out.trans (B2.mono HB1.out.size))
          obtain ⟨W3, hW3⟩ : ∃ W, w2.alloc (.cells (confS (r1.1.getD stZ) A1 hs.length c1 A2 ((r1.1.getD stZ) 9).bs.length c2 A3 ((r1.1.getD stZ) 10).rs.length c3) 28) = W := ⟨_, rfl⟩
          have b3 : Blk W3 w2.heap.size (confS (r1.1.getD stZ) A1 hs.length c1 A2 ((r1.1.getD stZ) 9).bs.length c2 A3 ((r1.1.getD stZ) 10).rs.length c3) 28 := by rw [← hW3]; exact Blk.new _ _ _
          have B3 : Below w2.heap.size w2 W3 := by rw [← hW3]; exact (Below.refl _ w2).alloc (Nat.le_refl _) _
          have z3 : W3.heap.size = w2.heap.size + 1 := by rw [← hW3]; simp
          obtain ⟨V3, hV3⟩ : ∃ V, Lib.bytesWorld W3 5 two = V := ⟨_, rfl⟩
          have BV3 : Below W3.heap.size W3 V3 := by rw [← hV3]; exact bytesWorld_below _ _ _
          have BB3 : Below w.heap.size w V3 := (HB2.out.trans (B3.mono HB2.out.size)).trans (BV3.mono (Nat.le_trans HB2.out.size B3.size))
          have hP2 := fun cap => parse_calls W3.heap.size cap two V3 t2 (by rw [← hV3, Lib.bytesWorld_size]; omega) (by rw [← hV3]; exact bytes_there _ _) (HL.out.below BB3 HL.out.size)
          obtain ⟨r2, hr2⟩ : ∃ r, parseV two = r := ⟨_, rfl⟩
          have hb2 := parse_bound two t2
          rw [hr2] at hP2 hb2
          rw [z3] at hP2
          have HP2 := Lib.hid hP2
          have HV3 := Lib.hid hV3
          have HI3 := Lib.hid (And.intro ((hI.below B3).below BV3) (And.intro (b3.below BV3 b3.lt) BB3))
          have HS3 := Lib.hid (And.intro B3.size BV3.size)
          unfold confS at hW3 ⊢
          have HW3 := Lib.hid hW3
          have HRR := Lib.hid (And.intro hr1 hr2)
          clear hC1 hI B2 b3 B3 z3 hP2 hV3 BV3 BB3 hW3 hr1 hr2 HP1 HV1 HB1
          dsimp only
          go_wp2_with fail
          rw [HW3.out, HV3.out]
          refine (HP2.out _).mono ?_
          rintro e w4 ⟨B4, C2, rfl, hC2⟩
          obtain ⟨A1', c1', A2', c2', A3', c3', hs', hI'⟩ := conf_is hC2
          obtain rfl := hI'.C
          obtain ⟨st1, hs1⟩ : ∃ st, r1.1.getD stZ = st := ⟨_, rfl⟩
          obtain ⟨st2, hs2⟩ : ∃ st, r2.1.getD stZ = st := ⟨_, rfl⟩
          rw [hs1] at HI3 HW3
          rw [hs2] at hI'
          rw [hs2]
          obtain ⟨W5, hW5⟩ : ∃ W, w4.alloc (.cells (confS st2 A1' hs'.length c1' A2' (st2 9).bs.length c2' A3' (st2 10).rs.length c3') 28) = W := ⟨_, rfl⟩
          have b5 : Blk W5 w4.heap.size (confS st2 A1' hs'.length c1' A2' (st2 9).bs.length c2' A3' (st2 10).rs.length c3') 28 := by rw [← hW5]; exact Blk.new _ _ _
          have B5 : Below w4.heap.size w4 W5 := by rw [← hW5]; exact (Below.refl _ w4).alloc (Nat.le_refl _) _
          have hI5 := (HI3.out.1.below B4).below B5
          have hI5' := hI'.below B5
          have b5' := (HI3.out.2.1.below B4 HI3.out.2.1.lt).below B5 (HI3.out.2.1.below B4 HI3.out.2.1.lt).lt
          have hbs : Below w.heap.size w W5 := (HI3.out.2.2.trans (B4.mono HI3.out.2.2.size)).trans (B5.mono (Nat.le_trans HI3.out.2.2.size B4.size))
          have HS5 := Lib.hid (same_calls _ _ st1 st2 A1 c1 A2 c2 A3 c3 hs A1' c1' A2' c2' A3' c3' hs' W5 hI5 hI5')
          have q5 := fun i => b5.cell i
          have q5' := fun i => b5'.cell i
          have HB5 := Lib.hid hbs
          have HST := Lib.hid (And.intro hs1 hs2)
          simp only [confS] at q5 q5'
          unfold confS at HS5 hW5 ⊢
          have HW5 := Lib.hid hW5
          clear hC2 hI' B4 b5 B5 hI5 hI5' b5' hbs hW5 HP2 HV3 HI3 HS3 HW3 HI HB2 hs1 hs2
          dsimp only
          go_upto_region 20 with (fail)
          rw [HW5.out]
          have hlaw0 : turned = false → r1.1 = r2.1 ∧ r1.2.2 = r2.2.2 ∧ (r1.2.1 + 1 = r2.2.1 ∨ r1.2.1 + 2 = r2.2.1 ∨ (r1.2.1 = 0 ∧ r2.2.1 = 0)) := fun h => by
            rw [← HRR.out.1, ← HRR.out.2]
            exact stays_text_same a b note one two HNL.out.1 HNL.out.2.1 HNL.out.2.2 H2.out.2 o2 (H2.out.1.2.2 h) t2
          have hlaw1 : turned = true → (r1.2.2 ≠ 0 ∧ r2.2.2 ≠ 0) ∨ (wordL a = wordL b ∧ a.size ≠ 0 ∧ b.size ≠ 0) ∨ (r1.1 = r2.1 ∧ r1.2.2 = r2.2.2) := fun h => by
            rw [← HRR.out.1, ← HRR.out.2]
            exact stays_text_turned a b note one two HNL.out.1 HNL.out.2.1 HNL.out.2.2 H2.out.2 o2 (H2.out.1.2.1 h) t2
          have HLAW := Lib.hid (And.intro hlaw0 hlaw1)
          clear hlaw0 hlaw1
          obtain ⟨X, hX⟩ : ∃ X, (turned && (!(r1.2.2 == 0) && !(r2.2.2 == 0))) = X := ⟨_, rfl⟩
          have HXX := Lib.hid hX
          clear hX
          go_cut [107] from 24 (fun v wx => v = .bool X ∧ wx = W5)
          case first =>
            as_aux_lemma =>
              cases turned with
              | false =>
                go_wp2
                all_goals go_meet
                exact ⟨congrArg Value.bool (by have h := HXX.out; exact h), rfl⟩
              | true =>
                cases he : (r1.2.2 == 0) with
                | true =>
                  have he1 : (r1.2.2 != 0) = false := by unfold bne; rw [he]; rfl
                  have he2 : decide (r1.2.2 = 0) = true := by rw [← he]; rfl
                  go_wp2
                  all_goals go_meet
                  exact ⟨congrArg Value.bool (by have h := HXX.out; rw [he] at h; exact h), rfl⟩
                | false =>
                  have he1 : (r1.2.2 != 0) = true := by unfold bne; rw [he]; rfl
                  have he2 : decide (r1.2.2 = 0) = false := by rw [← he]; rfl
                  cases hf : (r2.2.2 == 0) with
                  | true =>
                    have hf1 : (r2.2.2 != 0) = false := by unfold bne; rw [hf]; rfl
                    have hf2 : decide (r2.2.2 = 0) = true := by rw [← hf]; rfl
                    go_wp2
                    all_goals go_meet
                    exact ⟨congrArg Value.bool (by have h := HXX.out; rw [he, hf] at h; exact h), rfl⟩
                  | false =>
                    have hf1 : (r2.2.2 != 0) = true := by unfold bne; rw [hf]; rfl
                    have hf2 : decide (r2.2.2 = 0) = false := by rw [← hf]; rfl
                    go_wp2
                    all_goals go_meet
                    exact ⟨congrArg Value.bool (by have h := HXX.out; rw [he, hf] at h; exact h), rfl⟩
          case rest =>
            obtain ⟨rfl, rfl⟩ := hcut
            cases X with
            | true =>
              as_aux_lemma =>
                go_wp2
                go_ret
                exact ⟨rfl, HB5.out⟩
            | false =>
              have hne : turned = true → ¬ (r1.2.2 ≠ 0 ∧ r2.2.2 ≠ 0) := fun ht h => by
                have h' := HXX.out
                rw [ht] at h'
                simp [h.1, h.2] at h'
              have HNE := Lib.hid hne
              clear hne
              go_wp2_with fail
              refine HS5.out.mono ?_
              rintro e w6 ⟨bb, rfl, hbb, B6⟩
              have HB6 := Lib.hid (HB5.out.trans (B6.mono HB5.out.size))
              have hbst : r1.1 = r2.1 → bb = true := fun e => hbb (by rw [← HST.out.1, ← HST.out.2, e])
              have HBB := Lib.hid hbst
              clear hbb B6 hbst q5 q5' HS5
              obtain ⟨F, hF⟩ : ∃ F, (decide (0 < (a.size : Int)) && (decide (0 < (b.size : Int)) && ((wordT a).toList == (wordT b).toList))) = F := ⟨_, rfl⟩
              have HF := Lib.hid hF
              clear hF
              dsimp only
              go_upto_region 23 with (fail)
              go_cut [23] from 24 (fun v wx => v = .bool F ∧ wx = w6)
              case first =>
                as_aux_lemma =>
                  cases pa : decide (0 < (a.size : Int)) with
                  | false =>
                    have pa1 : decide (0 < a.size) = false := by rw [← pa]; exact decide_eq_decide.2 (by omega)
                    go_wp2
                    all_goals go_meet
                    exact ⟨congrArg Value.bool (by have h := HF.out; rw [pa] at h; exact h), rfl⟩
                  | true =>
                    have pa1 : decide (0 < a.size) = true := by rw [← pa]; exact decide_eq_decide.2 (by omega)
                    cases pb : decide (0 < (b.size : Int)) with
                    | false =>
                      have pb1 : decide (0 < b.size) = false := by rw [← pb]; exact decide_eq_decide.2 (by omega)
                      go_wp2
                      all_goals go_meet
                      exact ⟨congrArg Value.bool (by have h := HF.out; rw [pa, pb] at h; exact h), rfl⟩
                    | true =>
                      have pb1 : decide (0 < b.size) = true := by rw [← pb]; exact decide_eq_decide.2 (by omega)
                      go_wp2_with (first | (go_at_call_of 9 (Value.string a); refine (word_calls a ha _).mono ?_; rintro e w' ⟨rfl, rfl⟩) | (go_at_call_of 9 (Value.string b); refine (word_calls b hb _).mono ?_; rintro e w' ⟨rfl, rfl⟩))
                      all_goals go_meet
                      exact ⟨congrArg Value.bool (by have h := HF.out; rw [pa, pb] at h; exact h), rfl⟩
              case rest =>
                obtain ⟨rfl, rfl⟩ := hcut
                obtain ⟨y1, hy1⟩ := many_is (wordT a)
                obtain ⟨y2, hy2⟩ := many_is (wordT b)
                have HY1 := Lib.hid hy1
                have HY2 := Lib.hid hy2
                clear hy1 hy2
                go_upto_region 24 with (fail)
                go_cut [140] from 24 (fun v wx => (∃ y, v = .bool y ∧ (y = false → turned = true → F = false)) ∧ wx = wc)
                case first =>
                  as_aux_lemma =>
                    cases turned with
                    | false =>
                      go_wp2
                      all_goals go_meet
                      exact ⟨⟨false, rfl, fun _ h => (by cases h)⟩, rfl⟩
                    | true =>
                      cases F with
                      | true =>
                        go_wp2
                        all_goals go_meet
                        exact ⟨⟨true, rfl, fun h => (by cases h)⟩, rfl⟩
                      | false =>
                        cases y1 with
                        | false =>
                          go_wp2_with (first | (go_at_call_of 9 (Value.string a); refine (word_calls a ha _).mono ?_; rintro e w' ⟨rfl, rfl⟩) | (go_at_call_of 9 (Value.string b); refine (word_calls b hb _).mono ?_; rintro e w' ⟨rfl, rfl⟩) | (go_at_call_of 10 (Value.string (wordT a)); refine (HY1.out _).mono ?_; rintro e w' ⟨rfl, rfl⟩))
                          all_goals go_meet
                          exact ⟨⟨_, rfl, fun _ _ => (by simp)⟩, rfl⟩
                        | true =>
                          go_wp2_with (first | (go_at_call_of 9 (Value.string a); refine (word_calls a ha _).mono ?_; rintro e w' ⟨rfl, rfl⟩) | (go_at_call_of 9 (Value.string b); refine (word_calls b hb _).mono ?_; rintro e w' ⟨rfl, rfl⟩) | (go_at_call_of 10 (Value.string (wordT a)); refine (HY1.out _).mono ?_; rintro e w' ⟨rfl, rfl⟩) | (go_at_call_of 10 (Value.string (wordT b)); refine (HY2.out _).mono ?_; rintro e w' ⟨rfl, rfl⟩))
                          all_goals go_meet
                          exact ⟨⟨_, rfl, fun _ _ => (by simp)⟩, rfl⟩
                case rest =>
                  obtain ⟨⟨y, rfl, hy⟩, rfl⟩ := hcut
                  cases y with
                  | true =>
                    as_aux_lemma =>
                      go_wp2
                      go_ret
                      exact ⟨rfl, HB6.out⟩
                  | false =>
                    have hst : r1.1 = r2.1 ∧ r1.2.2 = r2.2.2 := by
                      cases ht : turned with
                      | false =>
                        obtain ⟨h1, h2, _⟩ := HLAW.out.1 ht
                        exact ⟨h1, h2⟩
                      | true =>
                        rcases HLAW.out.2 ht with h | ⟨h1, h2, h3⟩ | h
                        · exact absurd h (HNE.out ht)
                        · have hf := HF.out
                          rw [hy rfl ht, wordT_eq h1, decide_eq_true (show (0 : Int) < (a.size : Int) by omega), decide_eq_true (show (0 : Int) < (b.size : Int) by omega)] at hf
                          cases hf
                        · exact h
                    obtain rfl := HBB.out hst.1
                    rw [← hst.2]
                    have HST2 := Lib.hid hst
                    clear hst hy
                    obtain ⟨l1, l2⟩ := hb1
                    obtain ⟨l3, l4⟩ := hb2
                    cases ht : turned with
                    | true =>
                      as_aux_lemma =>
                        go_wp2
                        go_ret
                        exact ⟨rfl, HB6.out⟩
                    | false =>
                      have hd3 := (HLAW.out.1 ht).2.2
                      cases he : (r1.2.2 == 0) with
                      | true =>
                        as_aux_lemma =>
                          go_wp2
                          go_ret
                          exact ⟨rfl, HB6.out⟩
                      | false =>
                        cases d1 : (r1.2.1 + 1 == r2.2.1) with
                        | true =>
                          as_aux_lemma =>
                            go_wp2
                            go_ret
                            exact ⟨rfl, HB6.out⟩
                        | false =>
                          cases d2 : (r1.2.1 + 2 == r2.2.1) with
                          | true =>
                            as_aux_lemma =>
                              go_wp2
                              go_ret
                              exact ⟨rfl, HB6.out⟩
                          | false =>
                            have n1 := beq_eq_false_iff_ne.1 d1
                            have n2 := beq_eq_false_iff_ne.1 d2
                            have d3 : (r1.2.1 == 0) = true := beq_iff_eq.2 (by omega)
                            have d4 : (r2.2.1 == 0) = true := beq_iff_eq.2 (by omega)
                            clear hd3 n1 n2
                            as_aux_lemma =>
                              go_wp2
                              go_ret
                              exact ⟨rfl, HB6.out⟩
end Go.Proofs.YtjokcflpjpophaaGreatDoor
