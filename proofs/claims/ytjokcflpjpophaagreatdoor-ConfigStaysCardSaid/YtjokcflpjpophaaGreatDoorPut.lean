/- config.put at the list of backend lines: one more line behind an owned list, unless one is alike or there are too many. Conditions: the list is owned; the function value's contract. -/
import Derived.Test.YtjokcflpjpophaaGreatDoorAlike
import Derived.OwnWalk
import Derived.Laws.AppendOwn
namespace Go.Proofs.YtjokcflpjpophaaGreatDoor
open Go.RowKit

theorem flatMap_at {α : Type} (f : α → List Value) (n : Nat) (hf : ∀ x, (f x).length = n) : ∀ (l : List α) (i j : Nat) (hi : i < l.length), j < n → (l.flatMap f)[i * n + j]? = (f l[i])[j]?
  | x :: l, 0, j, _, hj => by
    rw [List.flatMap_cons, Nat.zero_mul, Nat.zero_add, List.getElem?_append_left (by rw [hf]; exact hj)]
    rfl
  | x :: l, i + 1, j, hi, hj => by
    rw [List.flatMap_cons, List.getElem?_append_right (by rw [hf, Nat.succ_mul]; omega), hf, show (i + 1) * n + j - n = i * n + j by rw [Nat.succ_mul]; omega]
    exact flatMap_at f n hf l i j (by simpa using hi) hj
theorem own_cells {w : World} {base n size g cap : Nat} {e : TypeId} {xs : List Value} (h : w.ownsRow base e size (.slice (some ⟨g, 0, none⟩) n cap) n xs) (j : Nat) (u : Value) (hj : xs[j]? = some u) : w.cell? ⟨g, j, none⟩ = some u := by
  rcases h.2 with ⟨h0, _⟩ | ⟨g', cap', cur, hv, _, hh, _, _, _, ht⟩
  · cases h0
  · simp only [Value.slice.injEq, Option.some.injEq, Addr.mk.injEq] at hv
    obtain ⟨⟨rfl, _⟩, _⟩ := hv
    rw [← ht, List.getElem?_take] at hj
    split at hj
    · simpa [World.cell?, hh] using hj
    · cases hj
theorem own_form {w : World} {base n size : Nat} {e : TypeId} {v : Value} {xs : List Value} (h : w.ownsRow base e size v n xs) : (v = .slice none 0 0 ∧ n = 0) ∨ ∃ g cap, v = .slice (some ⟨g, 0, none⟩) n cap ∧ g < w.heap.size ∧ base ≤ g := by
  rcases h.2 with h0 | ⟨g, cap, cur, rfl, hb, hh, _⟩
  · exact .inl h0
  · exact .inr ⟨g, cap, rfl, (Array.getElem?_eq_some_iff.1 hh).1, hb⟩
theorem own_below {w w' : World} {base n size : Nat} {e : TypeId} {v : Value} {xs : List Value} (h : w.ownsRow base e size v n xs) (hb : Below w.heap.size w w') : w'.ownsRow base e size v n xs := by
  refine ⟨h.1, h.2.imp id ?_⟩
  rintro ⟨g, cap, cur, hv, hg, hh, r⟩
  exact ⟨g, cap, cur, hv, hg, (hb.block g (Array.getElem?_eq_some_iff.1 hh).1).trans hh, r⟩
theorem same_grown {w w' : World} {o : Option Nat} (h : w.grownBy w' o) : Same (fun b => o = some b) w w' :=
  ⟨h.os, h.tape, h.output, h.size, fun b hb hs => h.block b hb (fun e => hs e.symm)⟩

/-- The cells of a line. -/
def backCells (b : BackL) : List Value := [.string b.name, .int .i64 b.addr, .string b.host, .string b.roots]
theorem infoB : (Tryz.prog.info? 75).map (fun i => (i.zero, i.size, i.bytes)) = some (some (.agg #[.string ⟨#[]⟩, .int .i64 0, .string ⟨#[]⟩, .string ⟨#[]⟩]), 4, 56) := by kernel_rfl
theorem own_BackAt {w : World} {base g cap : Nat} {bs : List BackL} (h : w.ownsRow base 75 4 (.slice (some ⟨g, 0, none⟩) bs.length cap) bs.length (bs.flatMap backCells)) : BackAt w g bs := fun i hi => by
  have hf := fun j (hj : j < 4) => flatMap_at backCells 4 (fun _ => rfl) bs i j hi hj
  exact ⟨own_cells h _ _ (hf 0 (by decide)), own_cells h _ _ (hf 1 (by decide)), own_cells h _ _ (hf 2 (by decide)), own_cells h _ _ (hf 3 (by decide))⟩

/-- How put ends. -/
def PutB (B : Nat) (v : Value) (w w' : World) (e : Ending) (r : Except Int (List BackL)) : Prop :=
  match r with
  | .error k => e = .panicked [{ v := .iface 29 (.int .i64 k), recovered := false }] ∧ Below w.heap.size w w'
  | .ok l => ∃ v', e = .returned v' ∧ w'.ownsRow B 75 4 v' l.length (l.flatMap backCells) ∧ Same (fun b => v.ownBlock = some b) w w'

set_option maxRecDepth 100000 in
set_option maxHeartbeats 2000000 in
theorem putB_calls (B : Nat) (v : Value) (bs : List BackL) (x : BackL) (fn : Nat) (a : Addr) (p : BackL → Bool) (w : World) (hn : bs.length ≤ 16) (hB : B ≤ w.heap.size)
    (hown : w.ownsRow B 75 4 v bs.length (bs.flatMap backCells))
    (he : ∀ args w, (callFunc fn args).run Tryz.prog w = .ok (.enter fn args) w)
    (hp : ∀ W b, Below w.heap.size w W → b ∈ bs → Calls Tryz.prog fn #[backAgg b, .pointer (some a)] W fun e w' => e = .returned (.bool (p b)) ∧ Below W.heap.size W w') :
    Calls Tryz.prog 66 #[v, backAgg x, .func (.func fn) #[] #[.pointer (some a)]] w fun e w' =>
      PutB B v w w' e (putE bs x p id) := by
  obtain ⟨W0, hW0⟩ : ∃ W, w.alloc (.cells (backCells x).toArray 75) = W := ⟨_, rfl⟩
  have B0 : Below w.heap.size w W0 := by rw [← hW0]; exact (Below.refl _ w).alloc (Nat.le_refl _) _
  have r0 : Blk W0 w.heap.size (backCells x).toArray 75 := by rw [← hW0]; exact Blk.new _ _ _
  have hown0 := own_below hown B0
  have hA : ∃ A cap, v = .slice A bs.length cap ∧ (0 < bs.length → ∃ g, A = some ⟨g, 0, none⟩ ∧ g < W0.heap.size ∧ BackAt W0 g bs) := by
    rcases own_form hown0 with ⟨rfl, h0⟩ | ⟨g, cap, rfl, hg, _⟩
    · exact ⟨none, 0, by rw [h0], fun h => by omega⟩
    · exact ⟨some ⟨g, 0, none⟩, cap, rfl, fun _ => ⟨g, rfl, hg, own_BackAt hown0⟩⟩
  obtain ⟨A, cap, rfl, hA⟩ := hA
  have hc := containsB_calls A cap bs fn a p W0 (by omega) hA he (fun W b hb hm => hp W b (B0.trans (hb.mono B0.size)) hm)
  have HC := Lib.hid hc
  have HO := Lib.hid hown0
  have HW := Lib.hid hW0
  have hl0 : w.heap.size < W0.heap.size := r0.lt
  have HR := Lib.hid r0
  clear hc hA hp hown hown0 hW0 r0
  unfold backAgg
  go_enter Tryz.func66, Tryz.ntmps66
  go_wp2_with fail
  rw [show w.alloc (.cells #[.string x.name, .int .i64 x.addr, .string x.host, .string x.roots] 75) = W0 from HW.out]
  refine HC.out.mono ?_
  rintro e w1 ⟨rfl, B1⟩
  have B01 := B0.trans (B1.mono B0.size)
  dsimp only
  cases hany : bs.any p with
  | true =>
    have hpe : putE bs x p id = .error 224 := by unfold putE; rw [if_pos hany]
    have HPE := Lib.hid hpe
    clear hpe
    go_wp2_with fail
    refine (must_no 224 _).mono ?_
    rintro e w2 ⟨rfl, rfl⟩
    refine ⟨rfl, ?_⟩
    rw [HPE.out]
    exact ⟨rfl, B01⟩
  | false =>
    go_wp2_with fail
    refine (must_ok _ _).mono ?_
    rintro e w2 ⟨rfl, rfl⟩
    dsimp only
    by_cases h16 : bs.length < 16
    · have hpe : putE bs x p id = .ok (bs ++ [x]) := by unfold putE; rw [if_neg (by rw [hany]; decide), if_neg (by omega)]; rfl
      have HPE := Lib.hid hpe
      clear hpe
      have r1 := HR.out.below B1 hl0
      have c0 := r1.cell 0
      have c1 := r1.cell 1
      have c2 := r1.cell 2
      have c3 := r1.cell 3
      simp only [backCells] at c0 c1 c2 c3
      have hown1 := own_below HO.out B1
      have hdec : decide ((bs.length : Int) < 16) = true := decide_eq_true (by omega)
      obtain ⟨i0, hi, hz0, hz1, hz2⟩ := info_parts infoB
      have hw1 : B ≤ w1.heap.size := Nat.le_trans hB B01.size
      go_wp2_with fail
      refine (must_ok _ _).mono ?_
      rintro e w2 ⟨rfl, rfl⟩
      dsimp only
      go_wp2_with (at_builtin; refine wpList_append_own _ rfl (.tmp 16) (.tmp 18) 25 rfl B 75 i0 (.agg #[.string ⟨#[]⟩, .int .i64 0, .string ⟨#[]⟩, .string ⟨#[]⟩]) 4 56 Tryz.underlying25 hi hz0 hz1 hz2 rfl (by decide) _ _ _ rfl (hown1.alloc _) ⟨w1.heap.size, 0, none⟩ 1 1 (backCells x) rfl rfl ?c1 ?c2 ?c3 ?c4 ?c5 ?_)
      case c1 =>
        intro j u hj
        match j, hj with
        | 0, hj => simp [backCells] at hj; subst hj; simp [Addr.add]
        | 1, hj => simp [backCells] at hj; subst hj; simp [Addr.add]
        | 2, hj => simp [backCells] at hj; subst hj; simp [Addr.add]
        | 3, hj => simp [backCells] at hj; subst hj; simp [Addr.add]
      case c2 => intro u hu; simp [backCells] at hu; rcases hu with rfl | rfl | rfl | rfl <;> rfl
      case c3 => simp [maxLen]; omega
      case c4 => omega
      case c5 => simp; omega
      intro v' w2 hown2 hg2 _
      go_wp2
      go_ret
      have hS : Same (fun b => (Value.slice A bs.length cap).ownBlock = some b) w w2 :=
        ((same_below B01).alloc _).trans (same_grown hg2)
      have hf : (bs ++ [x]).flatMap backCells = bs.flatMap backCells ++ backCells x := by rw [List.flatMap_append]; simp
      show PutB _ _ _ _ _ _
      rw [HPE.out]
      refine ⟨v', rfl, ?_, hS⟩
      rw [hf, List.length_append]
      exact hown2
    · have hpe : putE bs x p id = .error 2 := by unfold putE; rw [if_neg (by rw [hany]; decide), if_pos (by omega)]
      have HPE := Lib.hid hpe
      clear hpe
      have hdec : decide ((bs.length : Int) < 16) = false := decide_eq_false (by omega)
      go_wp2_with fail
      refine (must_no 2 _).mono ?_
      rintro e w2 ⟨rfl, rfl⟩
      refine ⟨rfl, ?_⟩
      rw [HPE.out]
      exact ⟨rfl, B01⟩
end Go.Proofs.YtjokcflpjpophaaGreatDoor
