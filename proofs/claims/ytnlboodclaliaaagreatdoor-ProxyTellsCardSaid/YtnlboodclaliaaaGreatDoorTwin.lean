/- The document's Header: it hands back what proxy.Header does. Conditions: the texts within the reach. -/
import Derived.Test.YtnlboodclaliaaaGreatDoorHeader
import Derived.Lib.SlBytesConst
import Derived.Laws.IdiomStrings
namespace Go.Proofs.YtnlboodclaliaaaGreatDoor
open Go.RowKit Go.Lib

theorem cut_all (s : ByteArray) (h : s.size ≤ 255) : s.extract 0 255 = s := by
  apply ByteArray.ext
  have hd : s.data.size = s.size := rfl
  simp only [ByteArray.data_extract]
  apply Array.ext
  · simp; omega
  · intro i h1 h2
    simp
theorem cut_empty (s : ByteArray) : (s.extract 0 255).toList.isEmpty = s.toList.isEmpty := by
  have e : ∀ t : ByteArray, t.toList.isEmpty = decide (t.size = 0) := by
    intro t
    rw [show t.toList = t.data.toList from ByteArray.toList_eq t]
    have hd : t.data.size = t.size := rfl
    cases hl : t.data.toList with
    | nil => simp [← hd, ← Array.length_toList, hl]
    | cons a l => simp [← hd, ← Array.length_toList, hl]
  rw [e, e, cut_size]
  congr 1
  simp only [eq_iff_iff]
  omega

set_option maxRecDepth 100000 in
theorem short_calls (s : ByteArray) (hs : s.size ≤ 140737488351240) (w : World) : Calls Tryz.prog 11 #[.string s] w fun e w' => e = .returned (.string (s.extract 0 255)) ∧ w = w' := by
  go_enter Tryz.func11, Tryz.ntmps11
  go_wp2
  all_goals go_ret
  · exact ⟨rfl, rfl⟩
  · exact ⟨by rw [cut_all s (by omega)]; rfl, rfl⟩

theorem own_below {w w' : World} {base n size : Nat} {e : TypeId} {v : Value} {xs : List Value} (h : w.ownsRow base e size v n xs) (hb : Below w.heap.size w w') : w'.ownsRow base e size v n xs := by
  refine ⟨h.1, h.2.imp id ?_⟩
  rintro ⟨g, cap, cur, hv, hg, hh, r⟩
  exact ⟨g, cap, cur, hv, hg, (hb.block g (Array.getElem?_eq_some_iff.1 hh).1).trans hh, r⟩
theorem strCells_at (w : World) (x : ByteArray) (j : Nat) (u : Value) (h : (strCells x)[j]? = some u) : (Lib.bytesWorld w 5 x).cell? ((⟨w.heap.size, 0, none⟩ : Addr).add j) = some u := by
  have hj : j < (strCells x).length := (List.getElem?_eq_some_iff.1 h).1
  rw [strCells_length] at hj
  rw [add_off, Lib.bytesWorld_cell w 5 x j hj, ← h]
  have hj' : j < x.data.size := hj
  simp [strCells, List.getD, Array.getElem?_eq_getElem hj']

def sig14 : Array Value := #[.int .u8 13, .int .u8 10, .int .u8 13, .int .u8 10, .int .u8 0, .int .u8 13, .int .u8 10, .int .u8 81, .int .u8 85, .int .u8 73, .int .u8 84, .int .u8 10, .int .u8 33, .int .u8 17]
theorem sig14_at (w : World) (o : Obj) (j : Nat) (u : Value) (h : sig14.toList[j]? = some u) : ((w.alloc (.cells sig14 5 (14, 15))).alloc o).cell? ((⟨w.heap.size, 0, none⟩ : Addr).add j) = some u := by
  rw [add_off, ((Below.refl _ (w.alloc (.cells sig14 5 (14, 15)))).alloc (Nat.le_refl _) o).cell (by simp), World.cell?_alloc_mark, ← h, Array.getElem?_toList]

set_option maxRecDepth 100000 in
set_option maxHeartbeats 2000000 in
theorem twin_calls (source id addr : Int) (host protocol : ByteArray) (h1 : host.size ≤ 140737488351240) (h2 : protocol.size ≤ 140737488351240) (w : World) :
    Calls Tryz.prog 6 #[.int .i64 source, .int .i64 id, .int .i64 addr, .string host, .string protocol] w fun e w' => Gives w w' e (sigB (12 + (tell 2 host).length + (tell 1 protocol).length) ++ bodyB source id addr host protocol) := by
  have kb := fun (w : World) (s : ByteArray) => Lib.run_convert_string_bytes (P := Tryz.prog) w 9 23 5 s Tryz.underlying9 Tryz.underlying23 Tryz.underlying5
  have kc := fun (w : World) (C : Array Value) (n c : Nat) => Lib.run_convert_bytes_const (P := Tryz.prog) w 23 5 C n c Tryz.underlying23 Tryz.underlying5
  obtain ⟨i0, hi, hz0, hz1, hz2⟩ := info_parts info5
  have hs1 := short_calls host h1
  have hs2 := short_calls protocol h2
  obtain ⟨x, hx⟩ : ∃ x, host.extract 0 255 = x := ⟨_, rfl⟩
  obtain ⟨y, hy⟩ : ∃ y, protocol.extract 0 255 = y := ⟨_, rfl⟩
  have hxs : x.size ≤ 255 := by rw [← hx, cut_size]; omega
  have hys : y.size ≤ 255 := by rw [← hy, cut_size]; omega
  have htx : tell 2 host = if host.toList.isEmpty = true then [] else [.int .u8 2, .int .u8 0, .int .u8 (x.size : Int)] ++ strCells x := by unfold tell; rw [cut_empty, hx]
  have hty : tell 1 protocol = if protocol.toList.isEmpty = true then [] else [.int .u8 1, .int .u8 0, .int .u8 (y.size : Int)] ++ strCells y := by unfold tell; rw [cut_empty, hy]
  rw [hx] at hs1
  rw [hy] at hs2
  have HX := Lib.hid (And.intro htx (And.intro hty (And.intro hs1 hs2)))
  clear hx hy htx hty hs1 hs2
  have ho0 : (w.alloc (.cells #[.int .u8 10, .int .u8 0, .int .u8 0, .int .u8 (source % 256), .int .u8 10, .int .u8 0, .int .u8 1, .int .u8 (addr % 256), .int .u8 (id / 256 % 256), .int .u8 (id % 256), .int .u8 1, .int .u8 187] 5)).ownsRow w.heap.size 5 1 (.slice (some ⟨w.heap.size, 0, none⟩) 12 12) 12 (headB source id addr) := own_new w _ _ (by simp [maxLen])
  have HO := Lib.hid ho0
  clear ho0
  go_enter Tryz.func6, Tryz.ntmps6
  go_upto_if 26 with (fail)
  go_cut [11] from 12 (fun b wc => wc.ownsRow w.heap.size 5 1 b (12 + (tell 2 host).length) (headB source id addr ++ tell 2 host) ∧ Below w.heap.size w wc)
  case first =>
    cases he : host.toList.isEmpty with
    | true =>
      have ht : tell 2 host = [] := by rw [HX.out.1, if_pos he]
      have HT := Lib.hid ht
      clear ht
      go_wp2
      all_goals go_meet
      rw [HT.out]
      exact ⟨by rw [List.append_nil]; exact HO.out, (Below.refl _ w).alloc (Nat.le_refl _) _⟩
    | false =>
      have ht : tell 2 host = [.int .u8 2, .int .u8 0, .int .u8 (x.size : Int)] ++ strCells x := by rw [HX.out.1, if_neg (by rw [he]; decide)]
      have HT := Lib.hid ht
      clear ht
      go_wp2_with (first
        | (go_at_call 11; refine (HX.out.2.2.1 _).mono ?_; rintro e w1 ⟨rfl, rfl⟩)
        | (at_builtin; refine wpList_append_own _ rfl (.tmp 29) (.tmp 33) 23 rfl w.heap.size 5 i0 (.int .u8 0) 1 1 Tryz.underlying23 hi hz0 hz1 hz2 rfl (by decide) _ _ _ rfl (HO.out.alloc _) ⟨w.heap.size + 1, 0, none⟩ 3 3 [.int .u8 2, .int .u8 0, .int .u8 (x.size : Int)] rfl rfl (by intro j u hj; match j, hj with | 0, hj => (simp at hj; subst hj; simp [Addr.add]) | 1, hj => (simp at hj; subst hj; simp [Addr.add]) | 2, hj => (simp at hj; subst hj; simp [Addr.add])) (by intro u hu; simp at hu; rcases hu with rfl | rfl | rfl <;> rfl) (by simp [maxLen]) (by simp) (by simp; omega) ?_; intro v1 w1 hown1 hg1 _; obtain ⟨g1, cap1, rfl⟩ := own_shape hown1 (by omega))
        | (at_builtin; refine wpList_append_own _ rfl (.tmp 34) (.tmp 36) 23 rfl w.heap.size 5 i0 (.int .u8 0) 1 1 Tryz.underlying23 hi hz0 hz1 hz2 rfl (by decide) _ _ _ rfl (own_below hown1 (bytesWorld_below w1 5 x)) ⟨w1.heap.size, 0, none⟩ x.size _ (strCells x) rfl (by rw [strCells_length, Nat.mul_one]) (strCells_at w1 x) (strCells_oneCell x) (by simp [maxLen]; omega) (by omega) (by have := (bytesWorld_below w1 5 x).size; have := hg1.size; simp at this; omega) ?_; intro v2 w2 hown2 hg2 _))
      all_goals go_meet
      have hB1 := (((Below.refl w.heap.size w).alloc (Nat.le_refl _) _).alloc (by simp) _).grown hg1 (by simp; omega) (fun k e => by cases e; exact Nat.le_refl _)
      have hB2 := hB1.trans ((bytesWorld_below w1 5 x).mono hB1.size)
      refine ⟨?_, hB2.grown hg2 hB2.size (fun k e => (hown1.lt k e).1)⟩
      rw [HT.out]
      have e : 12 + ([Value.int .u8 2, Value.int .u8 0, Value.int .u8 (x.size : Int)] ++ strCells x).length = 12 + 3 + x.size := by
        rw [List.length_append, strCells_length]
        simp only [List.length_cons, List.length_nil]
        omega
      rw [e, ← List.append_assoc]
      exact hown2
  case rest =>
    have hl2 := tell_len 2 host
    obtain ⟨n1, hn1⟩ : ∃ n, 12 + (tell 2 host).length = n := ⟨_, rfl⟩
    obtain ⟨hob, hBb⟩ := hcut
    rw [hn1] at hob
    obtain ⟨g0, cap0, rfl⟩ := own_shape hob (by omega)
    have HN := Lib.hid hn1
    have hn1' : n1 ≤ 270 := by omega
    have hn0 : 12 ≤ n1 := by omega
    clear hn1 hl2
    go_upto_if 39 with (fail)
    go_cut [11] from 12 (fun b wd => wd.ownsRow w.heap.size 5 1 b (n1 + (tell 1 protocol).length) (headB source id addr ++ tell 2 host ++ tell 1 protocol) ∧ Below w.heap.size w wd)
    case first =>
      cases he : protocol.toList.isEmpty with
      | true =>
        have ht : tell 1 protocol = [] := by rw [HX.out.2.1, if_pos he]
        have HT := Lib.hid ht
        clear ht
        go_wp2
        all_goals go_meet
        rw [HT.out]
        exact ⟨by rw [List.append_nil]; exact hob, hBb⟩
      | false =>
        have ht : tell 1 protocol = [.int .u8 1, .int .u8 0, .int .u8 (y.size : Int)] ++ strCells y := by rw [HX.out.2.1, if_neg (by rw [he]; decide)]
        have HT := Lib.hid ht
        clear ht
        have hwz := hBb.size
        go_wp2_with (first
          | (go_at_call 11; refine (HX.out.2.2.2 _).mono ?_; rintro e w1 ⟨rfl, rfl⟩)
          | (at_builtin; refine wpList_append_own _ rfl (.tmp 42) (.tmp 46) 23 rfl w.heap.size 5 i0 (.int .u8 0) 1 1 Tryz.underlying23 hi hz0 hz1 hz2 rfl (by decide) _ _ _ rfl (hob.alloc _) ⟨wc.heap.size, 0, none⟩ 3 3 [.int .u8 1, .int .u8 0, .int .u8 (y.size : Int)] rfl rfl (by intro j u hj; match j, hj with | 0, hj => (simp at hj; subst hj; simp [Addr.add]) | 1, hj => (simp at hj; subst hj; simp [Addr.add]) | 2, hj => (simp at hj; subst hj; simp [Addr.add])) (by intro u hu; simp at hu; rcases hu with rfl | rfl | rfl <;> rfl) (by simp [maxLen]; omega) (by omega) (by simp; omega) ?_; intro v1 w1 hown1 hg1 _; obtain ⟨g1, cap1, rfl⟩ := own_shape hown1 (by omega))
          | (at_builtin; refine wpList_append_own _ rfl (.tmp 47) (.tmp 49) 23 rfl w.heap.size 5 i0 (.int .u8 0) 1 1 Tryz.underlying23 hi hz0 hz1 hz2 rfl (by decide) _ _ _ rfl (own_below hown1 (bytesWorld_below w1 5 y)) ⟨w1.heap.size, 0, none⟩ y.size _ (strCells y) rfl (by rw [strCells_length, Nat.mul_one]) (strCells_at w1 y) (strCells_oneCell y) (by simp [maxLen]; omega) (by omega) (by have := (bytesWorld_below w1 5 y).size; have := hg1.size; simp at this; omega) ?_; intro v2 w2 hown2 hg2 _))
        all_goals go_meet
        have hB1 := (hBb.alloc hwz _).grown hg1 (by simp; omega) (fun k e => (hob.lt k e).1)
        have hB2 := hB1.trans ((bytesWorld_below w1 5 y).mono hB1.size)
        refine ⟨?_, hB2.grown hg2 hB2.size (fun k e => (hown1.lt k e).1)⟩
        rw [HT.out]
        have e : n1 + ([Value.int .u8 1, Value.int .u8 0, Value.int .u8 (y.size : Int)] ++ strCells y).length = n1 + 3 + y.size := by
          rw [List.length_append, strCells_length]
          simp only [List.length_cons, List.length_nil]
          omega
        rw [e, ← List.append_assoc]
        exact hown2
    case rest =>
      have hl3 := tell_len 1 protocol
      obtain ⟨N, hN⟩ : ∃ n, n1 + (tell 1 protocol).length = n := ⟨_, rfl⟩
      obtain ⟨hoc, hBc⟩ := hcut
      rw [hN] at hoc
      obtain ⟨g3, cap3, rfl⟩ := own_shape hoc (by omega)
      have HM := Lib.hid hN
      have hN1 : N ≤ 600 := by omega
      have hN0 : 12 ≤ N := by omega
      have hwz := hBc.size
      have hB0 := hob.lt
      clear hN hl3 hob hBb hB0
      go_wp2_with (first
        | (at_builtin; refine wpList_append_full _ rfl (.tmp 53) (.tmp 61) 23 rfl w.heap.size 5 i0 (.int .u8 0) Tryz.underlying23 hi hz0 hz1 hz2 rfl ⟨wc.heap.size, 0, none⟩ 14 sig14.toList rfl rfl (sig14_at wc _) ⟨wc.heap.size + 1, 0, none⟩ 2 2 [.int .u8 (N / 256), .int .u8 (N % 256)] rfl rfl (by intro j u hj; match j, hj with | 0, hj => (simp at hj; subst hj; simp [Addr.add]) | 1, hj => (simp at hj; subst hj; simp [Addr.add])) (by decide) (by decide) (by simp; omega) ?_; intro v1 w1 hown1 hg1; obtain ⟨g1, cap1, rfl⟩ := own_shape hown1 (by omega); have hB1 : Below wc.heap.size wc w1 := (((Below.refl wc.heap.size wc).alloc (Nat.le_refl _) _).alloc (by simp) _).grown hg1 (by simp; omega) (fun k e => by cases e))
        | (at_builtin; refine wpList_append_own _ rfl (.tmp 62) (.tmp 63) 23 rfl w.heap.size 5 i0 (.int .u8 0) 1 1 Tryz.underlying23 hi hz0 hz1 hz2 rfl (by decide) _ _ _ rfl hown1 ⟨g3, 0, none⟩ N cap3 (headB source id addr ++ tell 2 host ++ tell 1 protocol) rfl hoc.1 ((World.ownsRowF_of (own_below hoc hB1)).cells rfl) (bodyB_all source id addr host protocol).one (by simp [maxLen]; omega) (by omega) (by have := hB1.size; omega) ?_; intro v2 w2 hown2 hg2 _))
      go_wp2
      go_ret
      have hBx : Below w.heap.size w w1 := hBc.trans (hB1.mono hwz)
      have hB2 : Below w.heap.size w w2 := hBx.grown hg2 hBx.size (fun k e => by cases e; exact (hown1.lt _ rfl).1)
      rw [HN.out, HM.out]
      have hfin : w2.ownsRow w.heap.size 5 1 v2 (16 + N) (sigB N ++ bodyB source id addr host protocol) := hown2
      exact Gives.of_own hfin (by omega) hB2
end Go.Proofs.YtnlboodclaliaaaGreatDoor
