/- proxy.Header's closure: a kind, a length, at most 255 bytes of a text are appended; nothing where the text is empty. Conditions: the captured slice is owned. -/
import Derived.Test.YtnlboodclaliaaaGreatDoorBase
import Derived.Laws.AppendOwn
import Derived.Lib.AppendStr
import Derived.Deep.Cut
namespace Go.Proofs.YtnlboodclaliaaaGreatDoor
open Go.RowKit Go.Lib

/-- What is appended for a text: its kind, its length, at most 255 of its bytes. -/
def tell (kind : Int) (s : ByteArray) : List Value := if (s.extract 0 255).toList.isEmpty = true then [] else [.int .u8 kind, .int .u8 0, .int .u8 ((s.extract 0 255).size : Int)] ++ strCells (s.extract 0 255)
theorem cut_if (s : ByteArray) : s.extract 0 (if (255 : Int) < (s.size : Int) then (255 : Int) else (s.size : Int)).toNat = s.extract 0 255 := by
  split
  · rfl
  · apply ByteArray.ext
    have hd : s.data.size = s.size := rfl
    simp only [ByteArray.data_extract, Int.toNat_natCast]
    apply Array.ext
    · simp; omega
    · intro i h1 h2
      simp
theorem cut_size (s : ByteArray) : (s.extract 0 255).size = min 255 s.size := by simp
theorem info5 : (Tryz.prog.info? 5).map (fun i => (i.zero, i.size, i.bytes)) = some (some (.int .u8 0), 1, 1) := by kernel_rfl

theorem own_shape {w : World} {base n size : Nat} {e : TypeId} {v : Value} {xs : List Value} (h : w.ownsRow base e size v n xs) (hn : 0 < n) : ∃ g cap, v = .slice (some ⟨g, 0, none⟩) n cap := by
  rcases h.2 with ⟨_, h0⟩ | ⟨g, cap, cur, rfl, _⟩
  · omega
  · exact ⟨g, cap, rfl⟩
theorem Blk.grownRow {w w' : World} {p base n size : Nat} {c : Array Value} {T e : TypeId} {v : Value} {xs : List Value} (hp : Blk w p c T) (h : w.ownsRow base e size v n xs) (hg : w.grownBy w' v.ownBlock) (hT : T ≠ e) : Blk w' p c T := by
  refine hp.same (hg.block p hp.lt ?_)
  intro heq
  rcases h.2 with ⟨rfl, _⟩ | ⟨g, cap, cur, rfl, _, hh, _⟩
  · simp [Value.ownBlock] at heq
  · simp only [Value.ownBlock, Option.some.injEq] at heq
    subst heq
    rw [show w.heap[p]? = _ from hp] at hh
    simp only [Option.some.injEq, Obj.cells.injEq] at hh
    exact hT hh.2.1

set_option maxRecDepth 100000 in
set_option maxHeartbeats 2000000 in
theorem told_calls (base p n : Nat) (kind : Int) (s : ByteArray) (v : Value) (xs : List Value) (w : World) (hs : s.size ≤ 140737488351240) (hp : Blk w p #[v] 23) (hown : w.ownsRow base 5 1 v n xs) (hn : n ≤ 1000) (hb : base ≤ w.heap.size) (hpb : base ≤ p) :
    Calls Tryz.prog 10 #[.int .u8 kind, .string s, .pointer (some ⟨p, 0, none⟩)] w fun e w' => e = .returned (.tuple #[]) ∧ Below base w w' ∧ ∃ v', Blk w' p #[v'] 23 ∧ w'.ownsRow base 5 1 v' (n + (tell kind s).length) (xs ++ tell kind s) := by
  obtain ⟨i0, hi, hz0, hz1, hz2⟩ := info_parts info5
  have c0 := hp.cell 0
  have f0 := hp.free 0
  have hlt := hp.lt
  obtain ⟨x, hx⟩ : ∃ x, s.extract 0 255 = x := ⟨_, rfl⟩
  have hxs : x.size ≤ 255 := by rw [← hx, cut_size]; omega
  have HTL : tell kind s = if x.toList.isEmpty = true then [] else [.int .u8 kind, .int .u8 0, .int .u8 (x.size : Int)] ++ strCells x := by rw [← hx]; rfl
  have HX := Lib.hid hx
  have HP := Lib.hid hp
  have HO := Lib.hid hown
  clear hp hown
  go_enter Tryz.func10, Tryz.ntmps10
  go_upto_region 1 with (fail)
  rw [cut_if, hx]
  clear hx
  go_cut [1, 11] from 5 (fun t b wc => wc = w ∧ t = .string x ∧ b = .bool (!x.toList.isEmpty))
  case first =>
    go_wp2
    all_goals go_meet
    all_goals exact ⟨rfl, rfl, rfl⟩
  case rest =>
    obtain ⟨e1, rfl, rfl⟩ := hcut
    have e2 := e1.symm
    subst e2
    cases he : x.toList.isEmpty with
    | true =>
      have ht : tell kind s = [] := by rw [HTL, if_pos he]
      have HT := Lib.hid ht
      clear ht HTL he
      go_wp2
      go_end0
      exact ⟨rfl, Below.refl _ _, v, HP.out, by rw [HT.out]; simpa using HO.out⟩
    | false =>
      have ht : tell kind s = [.int .u8 kind, .int .u8 0, .int .u8 (x.size : Int)] ++ strCells x := by rw [HTL, if_neg (by rw [he]; decide)]
      have HT := Lib.hid ht
      clear ht HTL he
      go_wp2_with (first
        | (at_builtin; refine wpList_append_own _ rfl (.tmp 12) (.tmp 17) 23 rfl base 5 i0 (.int .u8 0) 1 1 Tryz.underlying23 hi hz0 hz1 hz2 rfl (by decide) _ _ _ rfl (HO.out.alloc _) ⟨w.heap.size, 0, none⟩ 3 3 [.int .u8 kind, .int .u8 0, .int .u8 (x.size : Int)] rfl rfl (by intro j u hj; match j, hj with | 0, hj => (simp at hj; subst hj; simp [Addr.add]) | 1, hj => (simp at hj; subst hj; simp [Addr.add]) | 2, hj => (simp at hj; subst hj; simp [Addr.add])) (by intro u hu; simp at hu; rcases hu with rfl | rfl | rfl <;> rfl) (by unfold maxLen; omega) (by omega) (by simp; omega) ?_; intro v1 w1 hown1 hg1 _)
        | (at_builtin; refine wpList_append_own_string _ rfl (.tmp 18) (.tmp 19) 23 9 rfl base 5 i0 Tryz.underlying23 Tryz.underlying9 hi hz0 hz1 hz2 _ _ _ rfl hown1 x rfl (by unfold maxLen; omega) (by omega) (by have := hg1.size; simp at this; omega) ?_; intro v2 w2 hown2 hg2 _; obtain ⟨g2, cap2, rfl⟩ := own_shape hown2 (by omega); have hp1 := (HP.out.alloc _).grownRow (HO.out.alloc _) hg1 (by decide); have hp2 := hp1.grownRow hown1 hg2 (by decide); have c2 := hp2.cell 0; have f2 := hp2.free 0))
      have hB1 := ((Below.refl base w).alloc hb (.cells #[.int .u8 kind, .int .u8 0, .int .u8 (x.size : Int)] 5)).grown hg1 (by simp; omega) (fun k e => (HO.out.lt k e).1)
      have hB2 := hB1.grown hg2 (by have := hB1.size; omega) (fun k e => (hown1.lt k e).1)
      go_end0
      refine ⟨rfl, hB2.setCell (by simpa using hpb) _, _, hp2.set 0 _, ?_⟩
      rw [HT.out]
      have := ownsRow_setCell_other hown2 (a := ⟨p, 0, none⟩) (by
        intro heq
        rcases hown2.2 with ⟨h0, _⟩ | ⟨g, cap, cur, he, _, hh, _⟩
        · cases h0
        · cases he
          simp only [Value.ownBlock, Option.some.injEq] at heq
          subst heq
          rw [show w2.heap[g2]? = _ from hp2] at hh
          simp only [Option.some.injEq, Obj.cells.injEq] at hh
          exact absurd hh.2.1 (by decide)) (.slice (some ⟨g2, 0, none⟩) (n + 3 + x.size) cap2)
      have e : n + ([Value.int .u8 kind, Value.int .u8 0, Value.int .u8 (x.size : Int)] ++ strCells x).length = n + 3 + x.size := by
        have hl : (strCells x).length = x.size := by unfold strCells; rw [List.length_map]; exact (Lib.size_eq x).symm
        rw [List.length_append, hl]
        simp only [List.length_cons, List.length_nil]
        omega
      rw [e, ← List.append_assoc]
      exact this
end Go.Proofs.YtnlboodclaliaaaGreatDoor
