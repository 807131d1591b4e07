/- config.put at host lines. Conditions: as in the text on backend lines. -/
import Derived.Test.YtjokcflpjpophaaGreatDoorPutR
namespace Go.Proofs.YtjokcflpjpophaaGreatDoor
open Go.RowKit

/-- The cells of a line. -/
def hostCells (b : HostV) : List Value := [.string b.1.name, .string b.1.cert, .string b.1.key, .string b.1.staple, b.2]
theorem infoH : (Tryz.prog.info? 72).map (fun i => (i.zero, i.size, i.bytes)) = some (some (.agg #[.string ⟨#[]⟩, .string ⟨#[]⟩, .string ⟨#[]⟩, .string ⟨#[]⟩, .slice none 0 0]), 5, 88) := by kernel_rfl
theorem own_HostAt {w : World} {base g cap : Nat} {bs : List HostV} (h : w.ownsRow base 72 5 (.slice (some ⟨g, 0, none⟩) bs.length cap) bs.length (bs.flatMap hostCells)) : HostAt w g bs := fun i hi => by
  have hf := fun j (hj : j < 5) => flatMap_at hostCells 5 (fun _ => rfl) bs i j hi hj
  exact ⟨own_cells h _ _ (hf 0 (by decide)), own_cells h _ _ (hf 1 (by decide)), own_cells h _ _ (hf 2 (by decide)), own_cells h _ _ (hf 3 (by decide)), own_cells h _ _ (hf 4 (by decide))⟩

/-- How put ends. -/
def PutH (B : Nat) (v : Value) (w w' : World) (e : Ending) (r : Except Int (List HostV)) : Prop :=
  match r with
  | .error k => e = .panicked [{ v := .iface 29 (.int .i64 k), recovered := false }] ∧ Below w.heap.size w w'
  | .ok l => ∃ v', e = .returned v' ∧ w'.ownsRow B 72 5 v' l.length (l.flatMap hostCells) ∧ Same (fun b => v.ownBlock = some b) w w'

set_option maxRecDepth 100000 in
set_option maxHeartbeats 2000000 in
theorem putH_calls (B : Nat) (v : Value) (bs : List HostV) (x : HostV) (fn : Nat) (a : Addr) (p : HostV → Bool) (w : World) (hx : x.2.oneCell' = true) (hn : bs.length ≤ 16) (hB : B ≤ w.heap.size)
    (hown : w.ownsRow B 72 5 v bs.length (bs.flatMap hostCells))
    (he : ∀ args w, (callFunc fn args).run Tryz.prog w = .ok (.enter fn args) w)
    (hp : ∀ W b, Below w.heap.size w W → b ∈ bs → Calls Tryz.prog fn #[hostAgg b, .pointer (some a)] W fun e w' => e = .returned (.bool (p b)) ∧ Below W.heap.size W w') :
    Calls Tryz.prog 63 #[v, hostAgg x, .func (.func fn) #[] #[.pointer (some a)]] w fun e w' =>
      PutH B v w w' e (putE bs x p id) := by
  obtain ⟨W0, hW0⟩ : ∃ W, w.alloc (.cells (hostCells x).toArray 72) = W := ⟨_, rfl⟩
  have B0 : Below w.heap.size w W0 := by rw [← hW0]; exact (Below.refl _ w).alloc (Nat.le_refl _) _
  have r0 : Blk W0 w.heap.size (hostCells x).toArray 72 := by rw [← hW0]; exact Blk.new _ _ _
  have hown0 := own_below hown B0
  have hA : ∃ A cap, v = .slice A bs.length cap ∧ (0 < bs.length → ∃ g, A = some ⟨g, 0, none⟩ ∧ g < W0.heap.size ∧ HostAt W0 g bs) := by
    rcases own_form hown0 with ⟨rfl, h0⟩ | ⟨g, cap, rfl, hg, _⟩
    · exact ⟨none, 0, by rw [h0], fun h => by omega⟩
    · exact ⟨some ⟨g, 0, none⟩, cap, rfl, fun _ => ⟨g, rfl, hg, own_HostAt hown0⟩⟩
  obtain ⟨A, cap, rfl, hA⟩ := hA
  have hc := containsH_calls A cap bs fn a p W0 (by omega) hA he (fun W b hb hm => hp W b (B0.trans (hb.mono B0.size)) hm)
  have HC := Lib.hid hc
  have HO := Lib.hid hown0
  have HW := Lib.hid hW0
  have hl0 : w.heap.size < W0.heap.size := r0.lt
  have HR := Lib.hid r0
  clear hc hA hp hown hown0 hW0 r0
  unfold hostAgg
  go_enter Tryz.func63, Tryz.ntmps63
  go_wp2_with fail
  rw [show w.alloc (.cells #[.string x.1.name, .string x.1.cert, .string x.1.key, .string x.1.staple, x.2] 72) = W0 from HW.out]
  refine HC.out.mono ?_
  rintro e w1 ⟨rfl, B1⟩
  have B01 := B0.trans (B1.mono B0.size)
  dsimp only
  cases hany : bs.any p with
  | true =>
    have hpe : putE bs x p id = .error 224 := by unfold putE; rw [if_pos hany]
    have HPE := Lib.hid hpe
    clear hpe
    go_wp2_with fail
    refine (must_no 224 _).mono ?_
    rintro e w2 ⟨rfl, rfl⟩
    refine ⟨rfl, ?_⟩
    rw [HPE.out]
    exact ⟨rfl, B01⟩
  | false =>
    go_wp2_with fail
    refine (must_ok _ _).mono ?_
    rintro e w2 ⟨rfl, rfl⟩
    dsimp only
    by_cases h16 : bs.length < 16
    · have hpe : putE bs x p id = .ok (bs ++ [x]) := by unfold putE; rw [if_neg (by rw [hany]; decide), if_neg (by omega)]; rfl
      have HPE := Lib.hid hpe
      clear hpe
      have r1 := HR.out.below B1 hl0
      have c0 := r1.cell 0
      have c1 := r1.cell 1
      have c2 := r1.cell 2
      have c3 := r1.cell 3
      have c4 := r1.cell 4
      simp only [hostCells] at c0 c1 c2 c3 c4
      have hown1 := own_below HO.out B1
      have hdec : decide ((bs.length : Int) < 16) = true := decide_eq_true (by omega)
      obtain ⟨i0, hi, hz0, hz1, hz2⟩ := info_parts infoH
      have hw1 : B ≤ w1.heap.size := Nat.le_trans hB B01.size
      go_wp2_with fail
      refine (must_ok _ _).mono ?_
      rintro e w2 ⟨rfl, rfl⟩
      dsimp only
      go_wp2_with (at_builtin; refine wpList_append_own _ rfl (.tmp 16) (.tmp 18) 24 rfl B 72 i0 (.agg #[.string ⟨#[]⟩, .string ⟨#[]⟩, .string ⟨#[]⟩, .string ⟨#[]⟩, .slice none 0 0]) 5 88 Tryz.underlying24 hi hz0 hz1 hz2 rfl (by decide) _ _ _ rfl (hown1.alloc _) ⟨w1.heap.size, 0, none⟩ 1 1 (hostCells x) rfl rfl ?c1 ?c2 ?c3 ?c4 ?c5 ?_)
      case c1 =>
        intro j u hj
        match j, hj with
        | 0, hj => simp [hostCells] at hj; subst hj; simp [Addr.add]
        | 1, hj => simp [hostCells] at hj; subst hj; simp [Addr.add]
        | 2, hj => simp [hostCells] at hj; subst hj; simp [Addr.add]
        | 3, hj => simp [hostCells] at hj; subst hj; simp [Addr.add]
        | 4, hj => simp [hostCells] at hj; subst hj; simp [Addr.add]
      case c2 => intro u hu; simp [hostCells] at hu; rcases hu with rfl | rfl | rfl | rfl | rfl <;> first | rfl | exact hx
      case c3 => simp [maxLen]; omega
      case c4 => omega
      case c5 => simp; omega
      intro v' w2 hown2 hg2 _
      go_wp2
      go_ret
      have hS : Same (fun b => (Value.slice A bs.length cap).ownBlock = some b) w w2 :=
        ((same_below B01).alloc _).trans (same_grown hg2)
      have hf : (bs ++ [x]).flatMap hostCells = bs.flatMap hostCells ++ hostCells x := by rw [List.flatMap_append]; simp
      show PutH _ _ _ _ _ _
      rw [HPE.out]
      refine ⟨v', rfl, ?_, hS⟩
      rw [hf, List.length_append]
      exact hown2
    · have hpe : putE bs x p id = .error 2 := by unfold putE; rw [if_neg (by rw [hany]; decide), if_pos (by omega)]
      have HPE := Lib.hid hpe
      clear hpe
      have hdec : decide ((bs.length : Int) < 16) = false := decide_eq_false (by omega)
      go_wp2_with fail
      refine (must_no 2 _).mono ?_
      rintro e w2 ⟨rfl, rfl⟩
      refine ⟨rfl, ?_⟩
      rw [HPE.out]
      exact ⟨rfl, B01⟩
end Go.Proofs.YtjokcflpjpophaaGreatDoor
