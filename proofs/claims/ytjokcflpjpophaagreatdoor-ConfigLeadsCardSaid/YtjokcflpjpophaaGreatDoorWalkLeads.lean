/- The walk of the law ConfigLeads. Conditions: bytealg.MaxLen is a number; the routes that came in lie in memory, their strings within the reach. -/
import Derived.Test.YtjokcflpjpophaaGreatDoorLeadsLaw
import Derived.Test.YtjokcflpjpophaaGreatDoorRouteNil
import Derived.Test.YtjokcflpjpophaaGreatDoorHead
import Derived.OwnWalk
import Derived.Laws.AppendOwn
import Derived.Deep.Cut
import Derived.Deep.CutBlock
namespace Go.Proofs.YtjokcflpjpophaaGreatDoor
open Go.RowKit

/-- The cells of routes, one behind the other. -/
def flatR (rs : List R3) : List Value := rs.flatMap fun r => [.string r.1, .string r.2.1, .int .i64 r.2.2]
theorem flatR_snoc (rs : List R3) (r : R3) : flatR (rs ++ [r]) = flatR rs ++ [.string r.1, .string r.2.1, .int .i64 r.2.2] := by simp [flatR]
theorem flatR_at : ∀ (rs : List R3) (i : Nat) (hi : i < rs.length), (flatR rs)[i * 3]? = some (.string rs[i].1) ∧ (flatR rs)[i * 3 + 1]? = some (.string rs[i].2.1) ∧ (flatR rs)[i * 3 + 2]? = some (.int .i64 rs[i].2.2)
  | r :: rs, 0, _ => ⟨rfl, rfl, rfl⟩
  | r :: rs, i + 1, hi => by
    have ih := flatR_at rs i (by simpa using hi)
    have e : flatR (r :: rs) = .string r.1 :: .string r.2.1 :: .int .i64 r.2.2 :: flatR rs := rfl
    rw [e]
    refine ⟨?_, ?_, ?_⟩
    · rw [show (i + 1) * 3 = i * 3 + 1 + 1 + 1 by omega]; simpa using ih.1
    · rw [show (i + 1) * 3 + 1 = (i * 3 + 1) + 1 + 1 + 1 by omega]; simpa using ih.2.1
    · rw [show (i + 1) * 3 + 2 = (i * 3 + 2) + 1 + 1 + 1 by omega]; simpa using ih.2.2
/-- What an owned row of routes holds. -/
theorem own_routes {w : World} {base : Nat} {v : Value} {rs : List R3} (h : w.ownsRow base 52 3 v rs.length (flatR rs)) (hp : 0 < rs.length) :
    ∃ g cap, v = .slice (some ⟨g, 0, none⟩) rs.length cap ∧ g < w.heap.size ∧ rs.length ≤ cap ∧ base ≤ g ∧ RoutesAt w g 0 rs := by
  rcases h.2 with ⟨_, h0⟩ | ⟨g, cap, cur, rfl, hb, hg, hcap, _, hcs, hx⟩
  · omega
  refine ⟨g, cap, rfl, (Array.getElem?_eq_some_iff.1 hg).1, hcap, hb, fun i hi => ?_⟩
  have hc : ∀ j, w.cell? ⟨g, j, none⟩ = cur[j]? := fun j => by simp [World.cell?, hg]
  have ht : ∀ j v, (flatR rs)[j]? = some v → cur[j]? = some v := fun j v hv => by
    rw [← hx] at hv
    rw [List.getElem?_take] at hv
    split at hv
    · simpa using hv
    · cases hv
  have hf := flatR_at rs i hi
  simp only [hc, Nat.zero_add]
  exact ⟨ht _ _ hf.1, ht _ _ hf.2.1, ht _ _ hf.2.2⟩

/-- The six good routes as the law lays them. -/
def bestCells (q : ByteArray) : Array Value := #[.string ⟨#[120, 46, 97, 46, 98]⟩, .string q, .int .i64 0, .string ⟨#[120, 46, 97, 46, 98]⟩, .string ⟨#[]⟩, .int .i64 0,
  .string ⟨#[42, 46, 97, 46, 98]⟩, .string q, .int .i64 0, .string ⟨#[42, 46, 97, 46, 98]⟩, .string ⟨#[]⟩, .int .i64 0, .string ⟨#[]⟩, .string q, .int .i64 0, .string ⟨#[]⟩, .string ⟨#[]⟩, .int .i64 0]
theorem bestCells_at (q : ByteArray) (i : Nat) (hi : i < 6) : (bestCells q)[i * 3]? = some (.string (bh i)) ∧ (bestCells q)[i * 3 + 1]? = some (.string (bp q i)) ∧ (bestCells q)[i * 3 + 2]? = some (.int .i64 0) := by
  match i, hi with
  | 0, _ | 1, _ | 2, _ | 3, _ | 4, _ | 5, _ => exact ⟨rfl, rfl, rfl⟩

theorem goods_sized (rs : List R3) (q : ByteArray) (c : Nat) (h : ∀ (i : Nat) (hi : i < rs.length), rs[i].1.size ≤ 140737488351232) : ∀ (i : Nat) (hi : i < ((rs.take 10).map yR ++ goods q c).length), ((rs.take 10).map yR ++ goods q c)[i].1.size ≤ 140737488351240 := by
  intro i hi
  have hm := List.getElem_mem hi
  rcases List.mem_append.1 hm with hm | hm
  · obtain ⟨r, hr, e⟩ := List.mem_map.1 hm
    rw [← e]
    obtain ⟨j, hj, e2⟩ := List.getElem_of_mem (List.mem_of_mem_take hr)
    have := h j hj
    rw [e2] at this
    show (addY r.1).size ≤ _
    rw [addY_size]
    omega
  · obtain ⟨j, _, e⟩ := List.mem_map.1 hm
    rw [← e]
    show (bh (5 - j)).size ≤ _
    unfold bh
    split
    · decide
    · split <;> decide

theorem info52 : (Tryz.prog.info? 52).map (fun i => (i.zero, i.size, i.bytes)) = some (some (.agg #[.string ⟨#[]⟩, .string ⟨#[]⟩, .int .i64 0]), 3, 40) := by kernel_rfl

set_option maxRecDepth 100000 in
set_option maxHeartbeats 8000000 in
theorem walk_leads (m : Int) (A : Option Addr) (cap : Nat) (rs : List R3) (proto : ByteArray) (n : Int) (hn : 0 ≤ n ∧ n ≤ 255) (w : World) (h2 : 2 < w.heap.size) (hm : w.cell? ⟨2, 0, none⟩ = some (.int .i64 m))
    (hrs : rs.length ≤ 140737488351232) (hsz : ∀ (i : Nat) (hi : i < rs.length), rs[i].1.size ≤ 140737488351232)
    (hA : 0 < rs.length → ∃ rb off, A = some ⟨rb, off, none⟩ ∧ rb < w.heap.size ∧ RoutesAt w rb off rs) :
    Calls Tryz.prog 5 #[.slice A rs.length cap, .string proto, .int .u8 n] w fun e w' => e = .returned (.bool true) ∧ Below w.heap.size w w' := by
  have HA := Lib.hid hA
  have HS := Lib.hid hsz
  clear hA hsz
  obtain ⟨q, hq⟩ : ∃ q : ByteArray, q = if proto.toList.isEmpty = true then ⟨#[112]⟩ else proto := ⟨_, rfl⟩
  have HQ := Lib.hid hq
  clear hq
  go_enter Tryz.func5, Tryz.ntmps5
  go_upto_if 17 with (go_at_call 6; refine (head_calls m w h2 hm).mono ?_; rintro e w1 ⟨rfl, B1⟩)
  go_cut [1] from 15 (fun p wc => p = .string q ∧ wc = w1)
  case first =>
    go_wp2
    all_goals go_meet
    all_goals refine ⟨?_, rfl⟩
    all_goals rw [HQ.out]
    · rw [if_pos (by assumption)]
    · rw [if_neg (by simp only [*]; decide)]
  case rest =>
    obtain ⟨rfl, e0⟩ := hcut
    have e1 := e0.symm
    subst e1
    obtain ⟨i0, hi, hz0, hz1, hz2⟩ := info_parts info52
    obtain ⟨W1, hW1⟩ : ∃ W, w1.alloc (.cells #[.string ⟨#[120, 46, 97, 46, 98]⟩, .string q, .int .i64 0, .string ⟨#[120, 46, 97, 46, 98]⟩, .string ⟨#[]⟩, .int .i64 0,
      .string ⟨#[42, 46, 97, 46, 98]⟩, .string q, .int .i64 0, .string ⟨#[42, 46, 97, 46, 98]⟩, .string ⟨#[]⟩, .int .i64 0, .string ⟨#[]⟩, .string q, .int .i64 0, .string ⟨#[]⟩, .string ⟨#[]⟩, .int .i64 0] 52) = W := ⟨_, rfl⟩
    have zW : W1.heap.size = w1.heap.size + 1 := by rw [← hW1]; simp
    have bW : Blk W1 w1.heap.size (bestCells q) 52 := by rw [← hW1]; exact Blk.new _ _ _
    have yW : Below w.heap.size w W1 := by rw [← hW1]; exact B1.alloc B1.size _
    have HW := Lib.hid hW1
    have zW' : w1.heap.size + 1 ≤ W1.heap.size := by omega
    clear hW1 zW
    obtain ⟨kk, hkk⟩ : ∃ kk : Nat, n % 6 = (kk : Int) := ⟨(n % 6).toNat, by omega⟩
    have hk6 : kk < 6 := by omega
    have HK := Lib.hid hkk
    clear hkk
    go_upto_block 0 with (fail)
    rw [HW.out]
    go_cut [10] from 15 (fun v wd => wd.ownsRow W1.heap.size 52 3 v ((rs.take 10).map yR).length (flatR ((rs.take 10).map yR)) ∧ Below W1.heap.size W1 wd)
    case first =>
      go_wp2_with fail
      go_loopw [10, 11] (fun v i wr => ∃ k : Nat, k ≤ rs.length ∧ k ≤ 10 ∧ i = .int .i64 k ∧ wr.ownsRow W1.heap.size 52 3 v k (flatR ((rs.take k).map yR)) ∧ Below W1.heap.size W1 wr) (fun _ i _ => rs.length - (intOf i).toNat)
      case atStart => exact ⟨0, Nat.zero_le _, by omega, rfl, World.ownsRow_nil _ _ _ _, Below.refl _ _⟩
      case round =>
        obtain ⟨k, hk, hk10, rfl, hown, hB⟩ := hrel
        by_cases hlt : k < rs.length ∧ k < 10
        · obtain ⟨rb, off, rfl, hrb, hR⟩ := HA.out (by omega)
          have hc := ((hR.below yW hrb).below hB (Nat.lt_of_lt_of_le hrb yW.size)) k hlt.1
          have hs1 := HS.out k hlt.1
          have hsn : flatR ((rs.take (k + 1)).map yR) = flatR ((rs.take k).map yR) ++ [.string (yR rs[k]).1, .string (yR rs[k]).2.1, .int .i64 (yR rs[k]).2.2] := by
            rw [List.take_succ_eq_append_getElem hlt.1, List.map_append, List.map_cons, List.map_nil, flatR_snoc]
          obtain ⟨⟨h, p, b⟩, hr⟩ : ∃ r, rs[k] = r := ⟨_, rfl⟩
          rw [hr] at hsn hc hs1
          dsimp only [yR] at hsn hc hs1
          have HN := Lib.hid hsn
          have c0 := hc.1
          have c1 := hc.2.1
          have c2 := hc.2.2
          obtain ⟨hl1, hl2⟩ := hlt
          have hwz := hB.size
          clear hr hsn hc
          have d2 : decide ((k : Int) < 10) = true := by simp; omega
          go_wp2_with (at_builtin; refine wpList_append_own _ rfl (.tmp 50) (.tmp 52) 37 rfl W1.heap.size 52 i0 (.agg #[.string ⟨#[]⟩, .string ⟨#[]⟩, .int .i64 0]) 3 40 Tryz.underlying37 hi hz0 hz1 hz2 rfl (by decide) _ _ _ rfl ((hown.alloc _).alloc _) ⟨wr.heap.size + 1, 0, none⟩ 1 1 [.string (⟨#[121, 46]⟩ ++ h), .string p, .int .i64 1] rfl rfl ?c1 ?c2 ?c3 ?c4 ?c5 ?_)
          case c1 =>
            intro j u hj
            match j, hj with
            | 0, hj => simp at hj; subst hj; simp [Addr.add]
            | 1, hj => simp at hj; subst hj; simp [Addr.add]
            | 2, hj => simp at hj; subst hj; simp [Addr.add]
          case c2 => intro u hu; simp at hu; rcases hu with rfl | rfl | rfl <;> rfl
          case c3 => unfold maxLen; omega
          case c4 => omega
          case c5 => simp; omega
          · intro v' w2 hown' hgrow _
            have hB' := ((hB.alloc hwz _).alloc (by simp; omega) _).grown hgrow (by simp; omega) (fun k e => (hown.lt k e).1)
            go_wp2
            go_roundw
            case rel => exact ⟨k + 1, by omega, by omega, by go_num, by rw [HN.out, List.map_take]; exact hown', hB'⟩
            case measure => simp [intOf]; omega
        · have hown2 : wr.ownsRow W1.heap.size 52 3 u10 ((rs.take 10).map yR).length (flatR ((rs.take 10).map yR)) := by
            have e : rs.take k = rs.take 10 := by
              by_cases h10 : k = 10
              · rw [h10]
              · rw [List.take_of_length_le (by omega), List.take_of_length_le (by omega)]
            have e2 : k = ((rs.take 10).map yR).length := by simp; omega
            rw [← e2, ← e]
            exact hown
          have HO := Lib.hid hown2
          clear hown2 hown
          by_cases h10 : k < rs.length
          · have d2 : decide ((k : Int) < 10) = false := by simp; omega
            go_wp2
            all_goals go_meet
            all_goals exact ⟨HO.out, hB⟩
          · go_wp2
            all_goals go_meet
            all_goals exact ⟨HO.out, hB⟩
    case rest =>
      obtain ⟨hown, hB⟩ := hcut
      have zW2 := hB.size
      go_upto_block 2 with (fail)
      have hys : ((rs.take 10).map yR).length ≤ 10 := by simp; omega
      obtain ⟨ys, hyl⟩ : ∃ ys, (rs.take 10).map yR = ys := ⟨_, rfl⟩
      have hyn : ys.length = min 10 rs.length := by rw [← hyl]; simp
      have HYN := Lib.hid hyn
      clear hyn
      have HL := Lib.hid hyl
      rw [hyl] at hown hys
      clear hyl
      have hE := bW.below hB bW.lt
      have HBS := Lib.hid (bestCells_at q)
      go_cut [10] from 15 (fun v wd => wd.ownsRow W1.heap.size 52 3 v (ys.length + (6 - kk)) (flatR (ys ++ goods q (6 - kk))) ∧ Below W1.heap.size W1 wd)
      case first =>
        go_wp2_with fail
        go_loopw [10, 13] (fun v i wr => ∃ (c : Nat) (x : Int), c ≤ 6 - kk ∧ i = .int .i64 x ∧ x = 5 - (c : Int) ∧ wr.ownsRow W1.heap.size 52 3 v (ys.length + c) (flatR (ys ++ goods q c)) ∧ Below W1.heap.size W1 wr) (fun _ i _ => (intOf i + 1).toNat)
        case atStart => exact ⟨0, 5, Nat.zero_le _, rfl, by omega, by simpa [goods] using hown, hB⟩
        case round =>
          obtain ⟨c, x, hc, rfl, hx, hown3, hB3⟩ := hrel
          have hkk := HK.out
          have hwz := hB3.size
          by_cases hlt : c < 6 - kk
          · obtain ⟨j, rfl⟩ : ∃ j : Nat, x = (j : Int) := ⟨x.toNat, by omega⟩
            have hj : j < 6 := by omega
            have hjc : 5 - c = j := by omega
            have d1 : decide (n % 6 ≤ (j : Int)) = true := by simp; omega
            have hsn : flatR (ys ++ goods q (c + 1)) = flatR (ys ++ goods q c) ++ [.string (bh j), .string (bp q j), .int .i64 (10 + (j : Int))] := by
              rw [show goods q (c + 1) = goods q c ++ [bR q (5 - c)] by simp [goods, List.range_succ], hjc, ← List.append_assoc, flatR_snoc]
              rfl
            have HN := Lib.hid hsn
            have hE3 := bW.below hB3 bW.lt
            have hat := HBS.out j hj
            have c0 : wr.cell? ⟨w1.heap.size, j * 3, none⟩ = some (.string (bh j)) := (hE3.cell _).trans hat.1
            have c1 : wr.cell? ⟨w1.heap.size, j * 3 + 1, none⟩ = some (.string (bp q j)) := (hE3.cell _).trans hat.2.1
            have c2 : wr.cell? ⟨w1.heap.size, j * 3 + 2, none⟩ = some (.int .i64 0) := (hE3.cell _).trans hat.2.2
            have hx' : (j : Int) = 5 - (c : Int) := hx
            have HX := Lib.hid hx'
            clear hsn hat hE3 hE hx hx' hkk hjc
            go_wp2_with (at_builtin; refine wpList_append_own _ rfl (.tmp 66) (.tmp 68) 37 rfl W1.heap.size 52 i0 (.agg #[.string ⟨#[]⟩, .string ⟨#[]⟩, .int .i64 0]) 3 40 Tryz.underlying37 hi hz0 hz1 hz2 rfl (by decide) _ _ _ rfl ((hown3.alloc _).alloc _) ⟨wr.heap.size + 1, 0, none⟩ 1 1 [.string (bh j), .string (bp q j), .int .i64 (10 + (j : Int))] rfl rfl ?d1 ?d2 ?d3 ?d4 ?d5 ?_)
            case d1 =>
              intro i u hj
              match i, hj with
              | 0, hj => simp at hj; subst hj; simp [Addr.add]
              | 1, hj => simp at hj; subst hj; simp [Addr.add]
              | 2, hj => simp at hj; subst hj; simp [Addr.add]
            case d2 => intro u hu; simp at hu; rcases hu with rfl | rfl | rfl <;> rfl
            case d3 => unfold maxLen; omega
            case d4 => omega
            case d5 => simp; omega
            · intro v' w2 hown' hgrow _
              have hB' := ((hB3.alloc hwz _).alloc (by simp; omega) _).grown hgrow (by simp; omega) (fun k e => (hown3.lt k e).1)
              go_wp2
              go_roundw
              case rel => exact ⟨c + 1, _, by omega, rfl, by have := HX.out; omega, by rw [HN.out]; exact hown', hB'⟩
              case measure => first | (simp [intOf]; done) | (simp [intOf]; omega)
          · have hce : c = 6 - kk := by omega
            have d1 : decide (n % 6 ≤ x) = false := by simp; omega
            have HO : Hid (wr.ownsRow W1.heap.size 52 3 u10 (ys.length + (6 - kk)) (flatR (ys ++ goods q (6 - kk)))) := by rw [← hce]; exact Lib.hid hown3
            clear hown3 hce
            go_wp2
            all_goals go_meet
            all_goals exact ⟨HO.out, hB3⟩
      case rest =>
        obtain ⟨hown4, hB4⟩ := hcut
        have hgl : (ys ++ goods q (6 - kk)).length = ys.length + (6 - kk) := by simp [goods]
        rw [← hgl] at hown4
        obtain ⟨g, cap4, rfl, hg, hcap, hbg, hR4⟩ := own_routes hown4 (by rw [hgl]; omega)
        have hqe : q.data.toList ≠ [] := by
          rw [HQ.out]
          split
          · simp
          · rename_i h; rw [toList_data] at h; simpa using h
        have hgs := goods_sized rs q (6 - kk) HS.out
        rw [HL.out] at hgs
        have hld := leads q hqe (rs.take 10) kk hk6
        have hnt := leads_not q (rs.take 10)
        rw [HL.out] at hld hnt
        have hy10 := hys
        have H1 : Hid (∀ (C : Array Value) (w2 : World), C[27]? = some (.slice (some ⟨g, 0, none⟩) (ys.length + (6 - kk)) cap4) → Below wc.heap.size wc w2 → Calls Tryz.prog 11 #[.agg C, .string ⟨#[88, 46, 97, 46, 66]⟩, .string q] w2 fun e w' => e = .returned (.int .i64 (10 + n % 6)) ∧ Below w2.heap.size w2 w') := by
          refine Lib.hid fun C w2 hC hb2 => ?_
          rw [HK.out, ← hld]
          exact Route_calls C g 0 cap4 (ys ++ goods q (6 - kk)) bigX q (by rw [hgl]; exact hC) w2 (Nat.lt_of_lt_of_le hg hb2.size) (hR4.below hb2 hg) (by rw [hgl]; omega) hgs (by decide)
        have H2 : Hid (∀ (C : Array Value) (w2 : World), C[27]? = some (.slice (some ⟨g, 0, none⟩) ys.length cap4) → Below wc.heap.size wc w2 → Calls Tryz.prog 11 #[.agg C, .string ⟨#[120, 46, 97, 46, 98]⟩, .string q] w2 fun e w' => e = .returned (.int .i64 (-1)) ∧ Below w2.heap.size w2 w') := by
          refine Lib.hid fun C w2 hC hb2 => ?_
          rw [← hnt]
          exact Route_calls C g 0 cap4 ys smallX q hC w2 (Nat.lt_of_lt_of_le hg hb2.size) (fun i hi => by
              have := (hR4.below hb2 hg) i (by rw [List.length_append]; omega)
              rwa [List.getElem_append_left hi] at this) (by omega) (fun i hi => by
              have := hgs i (by rw [List.length_append]; omega)
              rwa [List.getElem_append_left hi] at this) (by decide)
        have hwq := hB4.size
        have HR := Lib.hid hR4
        have HO := Lib.hid hown4
        have HG := Lib.hid hgl
        rw [hgl] at hcap ⊢
        clear hR4 hown4 hgl hgs hld hnt hqe
        go_wp2_with fail
        refine (H1.out _ _ rfl (Below.refl _ _)).mono ?_
        rintro e w5 ⟨rfl, B5⟩
        dsimp only
        have hyn := HYN.out
        have eN : (min (rs.length : Int) 10).toNat = ys.length := by omega
        have H3 := H2.out
        rw [← eN] at H3
        have H4 := Lib.hid H3
        have hc10 : (min (rs.length : Int) 10) ≤ (cap4 : Int) := by omega
        have B14 := yW.trans ((hB4.trans (B5.mono hwq)).mono yW.size)
        clear H3 H2 H1 hyn hcap hys hy10 eN hE bW hbg HL HBS HA HS
        go_wp2_with fail
        refine (H4.out _ _ rfl B5).mono ?_
        rintro e w6 ⟨rfl, B6⟩
        dsimp only
        have B16 := B14.trans (B6.mono B14.size)
        go_wp2
        go_ret
        exact ⟨rfl, B16⟩
end Go.Proofs.YtjokcflpjpophaaGreatDoor
