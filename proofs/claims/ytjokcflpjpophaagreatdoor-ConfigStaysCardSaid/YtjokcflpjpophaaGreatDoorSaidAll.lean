/- (reader).said at any line that says something. Conditions: the map of lines, the reader and the library's variables are there; the line within the reach. -/
import Derived.Test.YtjokcflpjpophaaGreatDoorSayAll
import Derived.Test.YtjokcflpjpophaaGreatDoorSaid
namespace Go.Proofs.YtjokcflpjpophaaGreatDoor
open Go.RowKit

theorem splitB_small (sep : ByteArray) (save : Nat) : ∀ (k : Nat) (s x : ByteArray), x ∈ Lib.splitB sep save k s → x.size ≤ s.size
  | 0, s, x, h => by
    rw [Lib.splitB_zero] at h
    rw [List.mem_singleton.1 h]
    exact Nat.le_refl _
  | k + 1, s, x, h => by
    rcases Lib.indexB_cases s sep with hm | ⟨i, hm, _⟩
    · rw [Lib.splitB_miss _ _ _ _ hm] at h
      rw [List.mem_singleton.1 h]
      exact Nat.le_refl _
    · rw [Lib.splitB_hit _ _ _ _ i hm] at h
      rcases List.mem_cons.1 h with rfl | h
      · rw [ByteArray.size_extract]; omega
      · have := splitB_small sep save k _ x h
        rw [ByteArray.size_extract] at this
        omega
theorem wordsOf_len (s : ByteArray) : (wordsOf s).length = Lib.countB s ⟨#[32]⟩ + 1 := Lib.splitB_all _ (by decide) 0 _ s rfl
theorem words_in {W : World} {ww : Nat} {xs : List ByteArray} (h : Blk W ww (xs.map Value.string).toArray 9) : WordsIn W ww xs := fun i x hx => by
  rw [h.cell]
  simp [hx]

theorem run_on_err {k : Nat} {f : Slot → Except Int Slot} {st : St} {c : Int} (h : f (st k) = .error c) : (LineAct.on k f).run st = .error c := by
  dsimp only [LineAct.run]
  rw [h]
theorem run_on_ok {k : Nat} {f : Slot → Except Int Slot} {st : St} {v : Slot} (h : f (st k) = .ok v) : (LineAct.on k f).run st = .ok (turn st k v) := by
  dsimp only [LineAct.run]
  rw [h]
  rfl
/-- How said ends. -/
def SaidK (w w' : World) (B rb sm : Nat) (st : St) (a : LineAct Slot) (e : Ending) : Prop :=
  Same (fun b => b = rb ∨ b = sm ∨ B ≤ b) w w' ∧ match a.run st with
    | .error c => e = .returned (.int .i64 c)
    | .ok st' => e = .returned (.int .i64 0) ∧ RdIs w' B rb sm st'

theorem RdIs.other {w : World} {B rb sm : Nat} {st : St} (D : RdIs w B rb sm st) {E : Nat} {c : Array Value} (hE : Blk w E c 29) (i : Nat) (v : Value) : RdIs (w.setCell ⟨E, i, none⟩ v) B rb sm st := by
  obtain ⟨hv, bv, rv, hs, es, clk, D⟩ := D
  have h1 : rb ≠ E := fun e => by
    subst e
    have := (show w.heap[rb]? = _ from D.R).symm.trans hE
    simp only [Option.some.injEq, Obj.cells.injEq] at this
    exact absurd this.2.1 (by decide)
  have h2 : sm ≠ E := fun e => by
    subst e
    exact absurd (D.M.symm.trans hE) (by simp)
  have hs' : Same (fun b => b = E) w (w.setCell ⟨E, i, none⟩ v) := (Same.refl _ w).set _ _ (fun _ => rfl)
  have hrow : ∀ {base n size : Nat} {e : TypeId} {u : Value} {xs : List Value}, w.ownsRow base e size u n xs → e ≠ 29 → (w.setCell ⟨E, i, none⟩ v).ownsRow base e size u n xs := fun ho h =>
    own_same ho hs' fun g c' fz hg hb => by
      subst hb
      have := (show w.heap[g]? = _ from hE).symm.trans hg
      simp only [Option.some.injEq, Obj.cells.injEq] at this
      exact h this.2.1.symm
  exact ⟨hv, bv, rv, hs, es, clk, {
    R := D.R.other _ _ h1
    M := (hs'.block sm (Array.getElem?_eq_some_iff.1 D.M).1 h2).trans D.M
    K := D.K
    seen := D.seen
    H := hrow D.H (by decide)
    P := fun b hb => hrow (D.P b hb) (by decide)
    hh := D.hh
    Bk := hrow D.Bk (by decide)
    Rt := hrow D.Rt (by decide)
    nH := D.nH
    nB := D.nB
    nR := D.nR
    zH := D.zH
    zR := D.zR
    ge := D.ge }⟩

set_option maxRecDepth 100000 in
set_option maxHeartbeats 2000000 in
theorem said_calls (B Bl rb sm : Nat) (st : St) (s : ByteArray) (w : World) (hs : s.size ≤ 1000000) (hl : LinesAt w Bl) (hB : Bl + 30 ≤ B) (hL : LaidW w) (hrd : RdIs w B rb sm st) (hBw : B ≤ w.heap.size) :
    Calls Tryz.prog 16 #[.pointer (some ⟨rb, 0, none⟩), .map (some Bl), .string s] w fun e w' => SaidK w w' B rb sm st (actW (wordsOf s)) e := by
  have hmf : ∀ (fn : Fn) (first cap : Array Value) (w : World), (Instr.makeFunc fn first cap).run Tryz.prog w = .ok (.func fn first cap) w := fun _ _ _ _ => rfl
  obtain ⟨hrb, hsm⟩ : rb < B ∧ sm < B := by
    obtain ⟨_, _, _, _, _, _, D⟩ := hrd
    exact ⟨D.ge.2.2.1, D.ge.2.2.2⟩
  obtain ⟨xs, hxs⟩ : ∃ xs, wordsOf s = xs := ⟨_, rfl⟩
  obtain ⟨n, hn⟩ : ∃ n, xs.length = n := ⟨_, rfl⟩
  have hnc : Lib.countB s ⟨#[32]⟩ + 1 = n := by rw [← hn, ← hxs, wordsOf_len]
  have hncs : n ≤ 1000001 := by
    have := Lib.countB_le ⟨#[32]⟩ (by decide) _ s (Nat.le_refl _)
    omega
  have hxsz : ∀ x ∈ xs, x.size ≤ 1000000 := fun x hx => by
    rw [← hxs] at hx
    have := splitB_small _ _ _ _ x hx
    omega
  have n0 : (0 : Int) < (n : Int) := by omega
  obtain ⟨m, hm⟩ := hL.mx
  obtain ⟨W1, hW1⟩ : ∃ W, w.alloc (.cells #[.int .i64 0] 29) = W := ⟨_, rfl⟩
  have y1 : Below w.heap.size w W1 := by rw [← hW1]; exact (Below.refl _ w).alloc (Nat.le_refl _) _
  have z1 : W1.heap.size = w.heap.size + 1 := by rw [← hW1]; simp
  have e1 : Blk W1 w.heap.size #[.int .i64 0] 29 := by rw [← hW1]; exact Blk.new _ _ _
  have hL1 : LaidW W1 := hL.below y1 hL.size
  obtain ⟨m, hm1⟩ := hL1.mx
  obtain ⟨W2, hW2⟩ : ∃ W, W1.alloc (.cells (xs.map Value.string).toArray 9) = W := ⟨_, rfl⟩
  have y2 : Below W1.heap.size W1 W2 := by rw [← hW2]; exact (Below.refl _ W1).alloc (Nat.le_refl _) _
  have z2 : W2.heap.size = w.heap.size + 2 := by rw [← hW2]; simp [z1]
  have b2 : Blk W2 W1.heap.size (xs.map Value.string).toArray 9 := by rw [← hW2]; exact Blk.new _ _ _
  have e2 : Blk W2 w.heap.size #[.int .i64 0] 29 := e1.below y2 (by omega)
  have hl2 : LinesAt W2 Bl := (hl.below y1 (by omega) (Nat.le_refl _)).below y2 (by omega) (Nat.le_refl _)
  have hL2 : LaidW W2 := hL1.below y2 hL1.size
  have hrd2 : RdIs W2 B rb sm st := (hrd.below y1).below y2
  have hsp : Calls Tryz.prog 44 #[.string s, .string ⟨#[32]⟩] W1 fun e w' => e = .returned (.slice (some ⟨W1.heap.size, 0, none⟩) n n) ∧ w' = W2 := by
    have h := Tryz.strings_Split s ⟨#[32]⟩ m W1 (by omega) hm1 (by decide)
    rw [hnc, show Lib.splitB ⟨#[32]⟩ 0 (Lib.countB s ⟨#[32]⟩) s = xs from hxs, hW2] at h
    exact h
  obtain ⟨x0, hx0⟩ : ∃ x0, wd xs 0 = x0 := ⟨_, rfl⟩
  have hx0' : xs[0]? = some x0 := by rw [← hx0]; exact wd_at (by omega)
  have c0 : W2.cell? ⟨W1.heap.size, 0, none⟩ = some (.string x0) := words_in b2 0 x0 hx0'
  have g2 : Below w.heap.size w W2 := y1.trans (y2.mono (by omega))
  rw [hxs]
  clear hxs hnc hm hm1 hrd hl hL hL1 y1 y2
  rcases kind_find Bl x0 with ⟨hkn, hkf⟩ | ⟨k, en, hks, hke, hkf, hkn⟩
  · have hlk : (Instr.lookup 60 (.map (some Bl)) (.string x0) true).run Tryz.prog W2 = .ok (.tuple #[.agg #[.nilFunc, .nilFunc], .bool false]) W2 :=
      run_mapMiss (P := Tryz.prog) (mty := 60) (kt := 9) (et := 84) (k := x0) (by rfl) (by rfl) hl2.map hkf (Tryz.zeroValue84 _) true
    have hact : actW xs = .bad 221 := by unfold actW; rw [hx0, hkn]
    have HACT := Lib.hid hact
    have H := Lib.hid (And.intro e2 g2)
    have HSP := Lib.hid hsp
    have HW1 := Lib.hid hW1
    clear hact e2 g2 hl2 hL2 hrd2 b2 hW1 hW2 z1 z2 e1 hsp hkf hkn hx0 hx0' hxsz
    go_enter_defers Tryz.func16, Tryz.ntmps16
    go_wp2_with fail
    rw [HW1.out]
    refine HSP.out.mono ?_
    rintro e wx ⟨rfl, rfl⟩
    dsimp only
    go_wp2_with fail
    refine (must_no 221 _).mono ?_
    rintro e wy ⟨rfl, rfl⟩
    have e3 : Blk (wx.alloc (.cells #[.nilFunc, .nilFunc] 84)) w.heap.size #[.int .i64 0] 29 := H.out.1.alloc _
    refine leaves_cons (f := 43) (args := #[.pointer (some ⟨w.heap.size, 0, none⟩)]) (by simp) (by simp [go_sem]) ?_
    refine (caught_panicking ⟨w.heap.size, 0, none⟩ 0 221 [] _ (e3.cell 0) (e3.free 0)).mono ?_
    rintro e u' w'' ⟨rfl, rfl, rfl⟩
    have e4 := e3.set 0 (.int .i64 221)
    have c4 := e4.cell 0
    have g : SaidK w ((wx.alloc (.cells #[.nilFunc, .nilFunc] 84)).setCell ⟨w.heap.size, 0, none⟩ (.int .i64 221)) B rb sm st (actW xs) (.returned (.int .i64 221)) := by
      refine ⟨((same_below H.out.2).alloc _).set _ _ (fun h => absurd h (Nat.lt_irrefl _)), ?_⟩
      rw [HACT.out]
      rfl
    simp [Leaves, settle, results, Tryz.results16, go_sem, c4, g]
  · obtain ⟨n1, f1, n2, f2, F⟩ := line_fns Bl k en hke
    have hlk : (Instr.lookup 60 (.map (some Bl)) (.string x0) true).run Tryz.prog W2 = .ok (.tuple #[.agg #[.func (.func n1) #[] f1, .func (.func n2) #[] f2], .bool true]) W2 := by
      have := run_mapGet (P := Tryz.prog) (mty := 60) (kt := 9) (et := 84) (k := x0) (by rfl) (by rfl) hl2.map hkf true
      rw [F.val] at this
      exact this
    obtain ⟨V, hV⟩ : ∃ V, W2.alloc (.cells #[.func (.func n1) #[] f1, .func (.func n2) #[] f2] 84) = V := ⟨_, rfl⟩
    have y3 : Below W2.heap.size W2 V := by rw [← hV]; exact (Below.refl _ W2).alloc (Nat.le_refl _) _
    have e3 : Blk V w.heap.size #[.int .i64 0] 29 := e2.below y3 (by omega)
    have b3 : Blk V W1.heap.size (xs.map Value.string).toArray 9 := b2.below y3 (by omega)
    have l3 : Blk V W2.heap.size #[.func (.func n1) #[] f1, .func (.func n2) #[] f2] 84 := by rw [← hV]; exact Blk.new _ _ _
    have hl3 : LinesAt V Bl := hl2.below y3 (by omega) (Nat.le_refl _)
    have hL3 : LaidW V := hL2.below y3 hL2.size
    have hrd3 : RdIs V B rb sm st := hrd2.below y3
    have g3 : Below w.heap.size w V := g2.trans (y3.mono (by omega))
    have r0 := l3.cell 0
    have r1 := l3.cell 1
    have hcon : Calls Tryz.prog 46 #[.slice (some ⟨W1.heap.size, 0, none⟩) n n, .string ⟨#[]⟩] V fun e w' => e = .returned (.bool (Lib.containsS xs ByteArray.empty)) ∧ w' = V := by
      refine (Tryz.slices_Contains_string W1.heap.size 0 n n xs ⟨#[]⟩ V (by omega) (by omega) (fun j hj => ?_)).mono ?_
      · rw [Nat.zero_add]
        exact words_in b3 j _ (by rw [List.getD_eq_getElem?_getD, List.getElem?_eq_getElem hj]; rfl)
      · rintro e w' ⟨rfl, rfl⟩
        rw [List.take_of_length_le (by omega)]
        exact ⟨rfl, rfl⟩
    have hfit := F.fit V W1.heap.size n xs hl3 (words_in b3)
    have hsay := fun (hf : fits k xs = true) => F.say V W1.heap.size n B rb sm xs st ⟨hl3, words_in b3, hL3, hrd3, by have := b3.lt; omega, by omega, hxsz, by omega, hf, by rw [hkn, hx0']⟩
    rw [hn] at hfit hsay
    have hrlt : rb ≠ w.heap.size ∧ sm ≠ w.heap.size := ⟨by omega, by omega⟩
    have hact : actW xs = if Lib.containsS xs ByteArray.empty = true then .bad 221 else if fits k xs = true then .on k (step k xs) else .bad 221 := by unfold actW; rw [hx0, hks]
    have hE1 := F.e1
    have hE2 := F.e2
    have HACT0 := Lib.hid hact
    have H := Lib.hid (And.intro e3 g3)
    have HSP := Lib.hid hsp
    have HW1 := Lib.hid hW1
    have HV := Lib.hid hV
    have HCON := Lib.hid hcon
    have HFIT := Lib.hid hfit
    have HSAY := Lib.hid hsay
    clear hact e2 g2 hl2 hL2 hrd2 b2 hW1 hW2 z1 z2 e1 hsp hkf hkn hx0 hx0' hxsz hV y3 e3 b3 l3 hl3 hL3 hrd3 g3 hcon hfit hsay hke hks F
    go_enter_defers Tryz.func16, Tryz.ntmps16
    go_wp2_with fail
    rw [HW1.out]
    refine HSP.out.mono ?_
    rintro e wx ⟨rfl, hwx⟩
    subst hwx
    dsimp only
    go_wp2_with fail
    rw [HV.out]
    refine HCON.out.mono ?_
    rintro e wy ⟨rfl, hwy⟩
    subst hwy
    dsimp only
    cases hc : Lib.containsS xs ByteArray.empty with
    | true =>
      rw [hc] at HACT0
      have HACT := Lib.hid (HACT0.out.trans (if_pos rfl))
      go_wp2_with fail
      refine (must_no 221 _).mono ?_
      rintro e wz ⟨rfl, rfl⟩
      have e3 : Blk wy w.heap.size #[.int .i64 0] 29 := H.out.1
      refine leaves_cons (f := 43) (args := #[.pointer (some ⟨w.heap.size, 0, none⟩)]) (by simp) (by simp [go_sem]) ?_
      refine (caught_panicking ⟨w.heap.size, 0, none⟩ 0 221 [] _ (e3.cell 0) (e3.free 0)).mono ?_
      rintro e u' w'' ⟨rfl, rfl, rfl⟩
      have e4 := e3.set 0 (.int .i64 221)
      have c4 := e4.cell 0
      have g : SaidK w (wy.setCell ⟨w.heap.size, 0, none⟩ (.int .i64 221)) B rb sm st (actW xs) (.returned (.int .i64 221)) := by
        refine ⟨(same_below H.out.2).set _ _ (fun h => absurd h (Nat.lt_irrefl _)), ?_⟩
        rw [HACT.out]
        rfl
      simp [Leaves, settle, results, Tryz.results16, go_sem, c4, g]
    | false =>
      rw [hc] at HACT0
      go_wp2_with fail
      refine HFIT.out.mono ?_
      rintro e wz ⟨rfl, hwz⟩
      subst hwz
      dsimp only
      cases hf : fits k xs with
      | false =>
        have HACT := Lib.hid ((HACT0.out.trans (if_neg (by decide))).trans (if_neg (by rw [hf]; decide)))
        go_wp2_with fail
        refine (must_no 221 _).mono ?_
        rintro e wz ⟨rfl, rfl⟩
        have e3 : Blk wy w.heap.size #[.int .i64 0] 29 := H.out.1
        refine leaves_cons (f := 43) (args := #[.pointer (some ⟨w.heap.size, 0, none⟩)]) (by simp) (by simp [go_sem]) ?_
        refine (caught_panicking ⟨w.heap.size, 0, none⟩ 0 221 [] _ (e3.cell 0) (e3.free 0)).mono ?_
        rintro e u' w'' ⟨rfl, rfl, rfl⟩
        have e4 := e3.set 0 (.int .i64 221)
        have c4 := e4.cell 0
        have g : SaidK w (wy.setCell ⟨w.heap.size, 0, none⟩ (.int .i64 221)) B rb sm st (actW xs) (.returned (.int .i64 221)) := by
          refine ⟨(same_below H.out.2).set _ _ (fun h => absurd h (Nat.lt_irrefl _)), ?_⟩
          rw [HACT.out]
          rfl
        simp [Leaves, settle, results, Tryz.results16, go_sem, c4, g]
      | true =>
        have HACT := Lib.hid ((HACT0.out.trans (if_neg (by decide))).trans (if_pos hf))
        have HS := Lib.hid (HSAY.out hf)
        go_wp2_with fail
        refine (must_ok _ _).mono ?_
        rintro e wz ⟨rfl, hwz⟩
        subst hwz
        dsimp only
        go_wp2_with fail
        refine HS.out.mono ?_
        rintro e w5 hS
        have hmine : ¬ Mine wy B rb sm w.heap.size := by
          rintro (h | h | ⟨_, c, T, fz, hh, hT⟩)
          · exact hrlt.1 h.symm
          · exact hrlt.2 h.symm
          · have := (show wy.heap[w.heap.size]? = _ from H.out.1).symm.trans hh
            simp only [Option.some.injEq, Obj.cells.injEq] at this
            obtain ⟨_, rfl, _⟩ := this
            revert hT
            decide
        have e5 : Blk w5 w.heap.size #[.int .i64 0] 29 := H.out.1.kept hS.1 hmine
        have k5 : Same (fun b => b = rb ∨ b = sm ∨ B ≤ b) w w5 := (same_below H.out.2).trans (hS.1.mono fun b _ h => h.sub)
        obtain ⟨_, hS⟩ := hS
        cases hst : step k xs (st k) with
        | error c =>
          rw [hst] at hS
          obtain rfl := hS
          have e3 : Blk w5 w.heap.size #[.int .i64 0] 29 := e5
          refine leaves_cons (f := 43) (args := #[.pointer (some ⟨w.heap.size, 0, none⟩)]) (by simp) (by simp [go_sem]) ?_
          refine (caught_panicking ⟨w.heap.size, 0, none⟩ 0 c [] _ (e3.cell 0) (e3.free 0)).mono ?_
          rintro e u' w'' ⟨rfl, rfl, rfl⟩
          have e4 := e3.set 0 (.int .i64 c)
          have c4 := e4.cell 0
          have g : SaidK w (w5.setCell ⟨w.heap.size, 0, none⟩ (.int .i64 c)) B rb sm st (actW xs) (.returned (.int .i64 c)) := by
            refine ⟨(k5).set _ _ (fun h => absurd h (Nat.lt_irrefl _)), ?_⟩
            rw [HACT.out]
            rw [run_on_err hst]
          simp [Leaves, settle, results, Tryz.results16, go_sem, c4, g]
        | ok v =>
          rw [hst] at hS
          obtain ⟨rfl, hR⟩ := hS
          have f5 := e5.free 0
          have c5 := e5.cell 0
          have HR := Lib.hid (And.intro hR (And.intro e5 k5))
          clear hR e5 k5
          dsimp only
          go_wp2
          have e6 := HR.out.2.1.set 0 (.int .i64 0)
          have g : SaidK w (w5.setCell ⟨w.heap.size, 0, none⟩ (.int .i64 0)) B rb sm st (actW xs) (.returned (.int .i64 0)) := by
            refine ⟨HR.out.2.2.set _ _ (fun h => absurd h (Nat.lt_irrefl _)), ?_⟩
            rw [HACT.out, run_on_ok hst]
            exact ⟨rfl, HR.out.1.other HR.out.2.1 0 _⟩
          refine leaves_cons (f := 43) (args := #[.pointer (some ⟨w.heap.size, 0, none⟩)]) (by simp) (by simp [go_sem]) ?_
          refine (caught_idle ⟨w.heap.size, 0, none⟩ _).mono ?_
          rintro e u' w'' ⟨rfl, rfl, rfl⟩
          have c6 := e6.cell 0
          simp [Leaves, settle, results, Tryz.results16, go_sem, c6, g]
end Go.Proofs.YtjokcflpjpophaaGreatDoor
