/- config.Parse at the text that the laws' head stands on: the second line is refused. Conditions: the text lies in a row of bytes, bytealg.MaxLen is a number. -/
import Derived.Test.YtjokcflpjpophaaGreatDoorSaid
import Derived.Test.YtjokcflpjpophaaGreatDoorHost
import Derived.Lib.SlBytesConst
import Derived.Laws.BytesString
import Derived.Shelf.RegionOpen
import Derived.RangeFuncCalls
namespace Go.Proofs.YtjokcflpjpophaaGreatDoor
open Go.RowKit
attribute [local go_sem] Oper.semAt_some

/-- The bytes '# a', a newline, 'idle  5'. -/
def headBytes : List UInt8 := [35, 32, 97, 10, 105, 100, 108, 101, 32, 32, 53]
theorem headCuts : cuts 10 headBytes = [[35, 32, 97], [105, 100, 108, 101, 32, 32, 53]] := by decide +kernel

theorem headText (w : World) (b cap : Nat) (hb : ∀ j (hj : j < headBytes.length), w.cell? ⟨b, j, none⟩ = some (.int .u8 (headBytes[j].toNat : Int))) :
    (convert 32 9 (.slice (some ⟨b, 0, none⟩) 11 cap)).run Tryz.prog w = .ok (.string ⟨headBytes.toArray⟩) w :=
  run_convert_bytes_back w 32 9 5 ⟨b, 0, none⟩ cap headBytes Tryz.underlying32 Tryz.underlying5 Tryz.underlying9 (fun j hj => by rw [add_off]; exact hb j hj)

/-- The cells of an api.Conf that is all zero. -/
def confZ : Array Value := #[.int .i64 0, .int .i64 0, .int .i64 0, .int .i64 0, .int .i64 0, .int .i64 0, .int .i64 0, .string ⟨#[]⟩, .int .i64 0, .int .i64 0, .string ⟨#[]⟩, .bool false, .slice none 0 0, .slice none 0 0, .slice none 0 0]

theorem setCell_same {w : World} {b : Nat} {c : Array Value} {T : TypeId} (h : Blk w b c T) {i : Nat} {v : Value} (hv : c[i]? = some v) : w.setCell ⟨b, i, none⟩ v = w := by
  have h' : w.heap[b]? = some (.cells c T (0, 0)) := h
  have hi : c.setIfInBounds i v = c := by
    apply Array.ext (by simp)
    intro k h1 h2
    rw [Array.getElem_setIfInBounds]
    split
    · subst_vars; exact (Option.some.inj (hv.symm.trans (Array.getElem?_eq_getElem h2)))
    · rfl
  unfold World.setCell
  cases w with
  | mk heap tape drawn os output =>
    simp only [World.mk.injEq, and_true]
    apply Array.ext (by simp)
    intro k h1 h2
    rw [Array.getElem_modify]
    split
    · subst_vars
      have h'' : heap[k]? = some (.cells c T (0, 0)) := h'
      have e : heap[k] = .cells c T (0, 0) := Option.some.inj ((Array.getElem?_eq_getElem h2).symm.trans h'')
      rw [e]
      simp [hi]
    · rfl
theorem conf_again (w : World) (n : Nat) (h : Blk w n confZ 28) :
    (((((((((((((((w.setCell ⟨n, 0, none⟩ (.int .i64 0)).setCell ⟨n, 1, none⟩ (.int .i64 0)).setCell ⟨n, 2, none⟩ (.int .i64 0)).setCell ⟨n, 3, none⟩ (.int .i64 0)).setCell ⟨n, 4, none⟩ (.int .i64 0)).setCell ⟨n, 5, none⟩ (.int .i64 0)).setCell ⟨n, 6, none⟩ (.int .i64 0)).setCell ⟨n, 7, none⟩ (.string ⟨#[]⟩)).setCell ⟨n, 8, none⟩ (.int .i64 0)).setCell ⟨n, 9, none⟩ (.int .i64 0)).setCell ⟨n, 10, none⟩ (.string ⟨#[]⟩)).setCell ⟨n, 11, none⟩ (.bool false)).setCell ⟨n, 12, none⟩ (.slice none 0 0)).setCell ⟨n, 13, none⟩ (.slice none 0 0)).setCell ⟨n, 14, none⟩ (.slice none 0 0)) = w := by
  have k : ∀ i v, confZ[i]? = some v → w.setCell ⟨n, i, none⟩ v = w := fun i v hv => setCell_same h hv
  rw [k 0 (.int .i64 0) rfl, k 1 (.int .i64 0) rfl, k 2 (.int .i64 0) rfl, k 3 (.int .i64 0) rfl, k 4 (.int .i64 0) rfl, k 5 (.int .i64 0) rfl, k 6 (.int .i64 0) rfl, k 7 (.string ⟨#[]⟩) rfl, k 8 (.int .i64 0) rfl, k 9 (.int .i64 0) rfl, k 10 (.string ⟨#[]⟩) rfl, k 11 (.bool false) rfl, k 12 (.slice none 0 0) rfl, k 13 (.slice none 0 0) rfl, k 14 (.slice none 0 0) rfl]

/-- What the loop over the lines keeps; how a refused line leaves it. -/
def PI (w WL : World) (pre : List (List UInt8)) (W : World) : Prop := Blk W (WL.heap.size + 1) #[.int .i64 pre.length] 3 ∧ Blk W WL.heap.size #[.map (some (w.heap.size + 1 + 1 + 1 + 1 + 1 + 1))] 60 ∧ Blk W w.heap.size confZ 28 ∧ Blk W (w.heap.size + 1) #[.int .i64 0] 3 ∧ Blk W (w.heap.size + 1 + 1) #[.int .i64 0] 29 ∧ Blk W (w.heap.size + 1 + 1 + 1 + 1 + 1) #[.pointer (some ⟨w.heap.size + 1 + 1 + 1 + 1, 0, none⟩)] 56 ∧ LinesAt W (w.heap.size + 1 + 1 + 1 + 1 + 1 + 1) ∧ Below w.heap.size w W ∧ pre.length < 2
def PIx (w : World) (j : Code) (W : World) : Prop := j = .ret ∧ Blk W w.heap.size confZ 28 ∧ Blk W (w.heap.size + 1) #[.int .i64 2] 3 ∧ Blk W (w.heap.size + 1 + 1) #[.int .i64 221] 29 ∧ Below w.heap.size w W

set_option maxRecDepth 100000 in
set_option maxHeartbeats 2000000 in
theorem Parse_head (b cap : Nat) (m : Int) (w : World) (hbl : b < w.heap.size) (hb : ∀ j (hj : j < headBytes.length), w.cell? ⟨b, j, none⟩ = some (.int .u8 (headBytes[j].toNat : Int))) (h2 : 2 < w.heap.size) (hm : w.cell? ⟨2, 0, none⟩ = some (.int .i64 m)) :
    Calls Tryz.prog 7 #[.slice (some ⟨b, 0, none⟩) 11 cap] w fun e w' => e = .returned (.tuple #[.agg confZ, .int .i64 2, .int .i64 221]) ∧ Below w.heap.size w w' := by
  have hmm := @run_makeMap Tryz.prog
  have HB := Lib.hid hb
  have HM := Lib.hid hm
  clear hb hm
  refine (callsIn_wide (n := 3)).1 (callsIn_of_wp_marks Tryz.func7 rfl trivial ?_)
  simp only [Tryz.ntmps7, List.size_toArray, List.length_cons, List.length_nil, Nat.reduceAdd, Nat.reduceSub, Array.replicate_succ, Array.replicate_zero, List.push_toArray, List.append_toArray, List.nil_append, List.cons_append]
  rw [wpIn_wide]
  go_wp2_with fail
  refine (lines_calls _).mono ?_
  rintro e WL ⟨rfl, bl, zl, hl⟩
  have k0 : Blk WL w.heap.size confZ 28 := Blk.below ((((((Blk.new w confZ 28).alloc _).alloc _).alloc _).alloc _).alloc _) bl (by simp only [World.size_alloc]; omega)
  have k1 : Blk WL (w.alloc _).heap.size #[.int .i64 0] 3 := Blk.below (((((Blk.new (w.alloc _) #[.int .i64 0] 3).alloc _).alloc _).alloc _).alloc _) bl (by simp only [World.size_alloc]; omega)
  have k2 : Blk WL ((w.alloc _).alloc _).heap.size #[.int .i64 0] 29 := Blk.below ((((Blk.new ((w.alloc _).alloc _) #[.int .i64 0] 29).alloc _).alloc _).alloc _) bl (by simp only [World.size_alloc]; omega)
  have k5 : Blk WL (((((w.alloc _).alloc _).alloc _).alloc _).alloc _).heap.size #[.pointer (some ⟨w.heap.size + 1 + 1 + 1 + 1, 0, none⟩)] 56 := Blk.below (Blk.new (((((w.alloc _).alloc _).alloc _).alloc _).alloc _) #[.pointer (some ⟨w.heap.size + 1 + 1 + 1 + 1, 0, none⟩)] 56) bl (by simp only [World.size_alloc]; omega)
  have y0 : Below w.heap.size w WL := ((((((Below.refl _ w).alloc (Nat.le_refl _) _).alloc (by simp) _).alloc (by simp; omega) _).alloc (by simp; omega) _).alloc (by simp; omega) _).alloc (by simp; omega) _ |>.trans (bl.mono (by simp; omega))
  simp only [World.size_alloc] at k1 k2 k5 zl hl ⊢
  have hcv : (convert 32 9 (.slice (some ⟨b, 0, none⟩) 11 cap)).run Tryz.prog ((WL.alloc (.cells #[.map (some (w.heap.size + 1 + 1 + 1 + 1 + 1 + 1))] 60)).alloc (.cells #[.int .i64 0] 3)) = .ok (.string ⟨headBytes.toArray⟩) _ :=
    headText _ b cap (fun j hj => (((y0.alloc y0.size _).alloc (by simp; have := y0.size; omega) _).cell hbl).trans (HB.out j hj))
  have HY := Lib.hid (And.intro y0 (And.intro hl (And.intro k0 (And.intro k1 (And.intro k2 (And.intro k5 zl))))))
  clear bl y0 hl k0 k1 k2 k5 zl
  go_wp2_with (go_at_call 15; refine (SplitSeq_calls _ _ _).mono ?_; rintro e w' ⟨rfl, rfl⟩)
  obtain ⟨y0, hl, k0, k1, k2, k5, zl⟩ := HY.out
  have b2 := ((Blk.new ((WL.alloc (.cells #[.map (some (w.heap.size + 1 + 1 + 1 + 1 + 1 + 1))] 60)).alloc (.cells #[.int .i64 0] 3)) #[.string ⟨headBytes.toArray⟩] 9).alloc (.cells #[.string ⟨#[10]⟩] 9)).alloc (.cells #[.int .i64 0] 3)
  obtain ⟨W0, hW0⟩ : ∃ W0, ((((WL.alloc (.cells #[.map (some (w.heap.size + 1 + 1 + 1 + 1 + 1 + 1))] 60)).alloc (.cells #[.int .i64 0] 3)).alloc (.cells #[.string ⟨headBytes.toArray⟩] 9)).alloc (.cells #[.string ⟨#[10]⟩] 9)).alloc (.cells #[.int .i64 0] 3) = W0 := ⟨_, rfl⟩
  have b1 : Blk W0 (WL.heap.size + 1 + 1 + 1) #[.string ⟨#[10]⟩] 9 := by
    have := (Blk.new (((WL.alloc (.cells #[.map (some (w.heap.size + 1 + 1 + 1 + 1 + 1 + 1))] 60)).alloc (.cells #[.int .i64 0] 3)).alloc (.cells #[.string ⟨headBytes.toArray⟩] 9)) #[.string ⟨#[10]⟩] 9).alloc (.cells #[.int .i64 0] 3)
    rw [hW0] at this
    simpa only [World.size_alloc] using this
  have b3 : Blk W0 (WL.heap.size + 1 + 1 + 1 + 1) #[.int .i64 0] 3 := by
    have := Blk.new ((((WL.alloc (.cells #[.map (some (w.heap.size + 1 + 1 + 1 + 1 + 1 + 1))] 60)).alloc (.cells #[.int .i64 0] 3)).alloc (.cells #[.string ⟨headBytes.toArray⟩] 9)).alloc (.cells #[.string ⟨#[10]⟩] 9)) #[.int .i64 0] 3
    rw [hW0] at this
    simpa only [World.size_alloc] using this
  have d6 : Blk W0 WL.heap.size #[.map (some (w.heap.size + 1 + 1 + 1 + 1 + 1 + 1))] 60 := by
    rw [← hW0]; exact ((((Blk.new WL _ _).alloc _).alloc _).alloc _).alloc _
  have d7 : Blk W0 (WL.heap.size + 1) #[.int .i64 0] 3 := by
    have := (((Blk.new (WL.alloc (.cells #[.map (some (w.heap.size + 1 + 1 + 1 + 1 + 1 + 1))] 60)) #[.int .i64 0] 3).alloc (.cells #[.string ⟨headBytes.toArray⟩] 9)).alloc (.cells #[.string ⟨#[10]⟩] 9)).alloc (.cells #[.int .i64 0] 3)
    rw [hW0] at this
    simpa only [World.size_alloc] using this
  rw [hW0] at b2 ⊢
  simp only [World.size_alloc] at b2
  have y1 : Below WL.heap.size WL W0 := by
    rw [← hW0]; exact (((((Below.refl _ WL).alloc (Nat.le_refl _) _).alloc (by simp) _).alloc (by simp; omega) _).alloc (by simp; omega) _).alloc (by simp; omega) _
  have z0 : W0.heap.size = WL.heap.size + 5 := by rw [← hW0]; simp
  replace k0 := k0.below y1 k0.lt
  replace k1 := k1.below y1 k1.lt
  replace k2 := k2.below y1 k2.lt
  replace k5 := k5.below y1 k5.lt
  replace hl := hl.below y1 (by omega) (Nat.le_refl _)
  have y : Below w.heap.size w W0 := y0.trans (y1.mono y0.size)
  have hzl : w.heap.size + 36 ≤ WL.heap.size := by omega
  have hz0 : WL.heap.size + 5 ≤ W0.heap.size := by omega
  clear hW0 y0 y1 HY hcv zl z0
  refine (wpIn_wide (n := 3)).1 (wpIn_rangeSplit 10 ⟨headBytes.toArray⟩ (by decide) _ _ _ rfl b1 b2 b3 (by omega) (by omega)
    (PI w WL)
    (PIx w)
    ?hI ?hIx ⟨d7, d6, k0, k1, k2, k5, hl, y, by simp⟩ ?a1 ?assign ?body ?done ?stop)
  case assign =>
    intro l x W K hK
    gi_wp2
    exact hK
  case hI =>
    rintro pre A B hS ⟨i0, i1, i2, i3, i4, i5, i6, i7, i8⟩
    refine ⟨i0.kept hS (by omega), i1.kept hS (by omega), i2.kept hS (by omega), i3.kept hS (by omega), i4.kept hS (by omega), i5.kept hS (by omega), i6.below (hS.below (WL.heap.size) (by have := i0.lt; omega) (by omega)) (by omega) (by have := i0.lt; omega), i7.trans (hS.below _ i7.size (by omega)), i8⟩
  case hIx =>
    rintro j A B hS ⟨i0, i1, i2, i3, i4⟩
    exact ⟨i0, i1.kept hS (by omega), i2.kept hS (by omega), i3.kept hS (by omega), i4.trans (hS.below _ i4.size (by omega))⟩
  case body =>
    rintro l pre x W ⟨i0, i1, i2, i3, i4, i5, i6, i7, i8⟩ ⟨rest, hr⟩ hsz2
    rw [show (⟨headBytes.toArray⟩ : ByteArray).data.toList = headBytes from rfl, headCuts] at hr
    have q0 := i0.cell 0
    have q0f := i0.free 0
    have hwf : ∀ f, Fence.wide.fn f := fun _ => trivial
    have hwd : Fence.wide.depth.isSome = false := rfl
    match pre, hr, i8 with
    | [], hr, _ =>
      obtain rfl : x = ⟨#[35, 32, 97]⟩ := by
        have := (List.cons.inj hr).1
        cases x with | mk d => exact congrArg _ (Array.ext' this.symm)
      clear hr
      have hgood : ∀ a', splitPost [WL.heap.size + 1 + 1, WL.heap.size + 1 + 1 + 1, WL.heap.size + 1 + 1 + 1 + 1, W0.heap.size, W0.heap.size + 1] (PI w WL ([] ++ [[35, 32, 97]])) (PIx w) W .normal a' (W.setCell ⟨WL.heap.size + 1, 0, none⟩ (.int .i64 1)) := fun a' =>
        ⟨⟨by simp [World.setCell], fun b hm => Below.heap_setCell W _ _ b (by simp at hm ⊢; omega)⟩, i0.set 0 _, i1.other _ _ (by simp), i2.other _ _ (by simp; omega), i3.other _ _ (by simp; omega), i4.other _ _ (by simp; omega), i5.other _ _ (by simp; omega), i6.below ((Below.refl WL.heap.size W).setCell (by simp) _) (by omega) (by omega), i7.setCell (by simp; omega) _, by simp⟩
      have HG := Lib.hid hgood
      clear hgood
      gi_wp2
      exact HG.out _
    | [p], hr, _ =>
      obtain rfl : x = badLine := by
        have := (List.cons.inj (List.cons.inj hr).2).1
        cases x with | mk d => exact congrArg _ (Array.ext' this.symm)
      clear hr
      have c5 := (i5.other ⟨WL.heap.size + 1, 0, none⟩ (.int .i64 2) (by simp; omega)).cell 0
      have c6 := (i1.other ⟨WL.heap.size + 1, 0, none⟩ (.int .i64 2) (by simp)).cell 0
      have q1 : (W.setCell ⟨WL.heap.size + 1, 0, none⟩ (.int .i64 2)).cell? ⟨2, 0, none⟩ = some (.int .i64 m) := ((i7.setCell (by simp; omega) _).cell h2).trans HM.out
      have q2 : LinesAt (W.setCell ⟨WL.heap.size + 1, 0, none⟩ (.int .i64 2)) (w.heap.size + 1 + 1 + 1 + 1 + 1 + 1) := i6.below ((Below.refl WL.heap.size W).setCell (by simp) _) (by omega) (by omega)
      have hsaid := said_bad m _ (.pointer (some ⟨w.heap.size + 1 + 1 + 1 + 1, 0, none⟩)) _ q2 (by simp [World.setCell]; omega) q1
      have HS := Lib.hid hsaid
      have HQ := Lib.hid q2
      clear hsaid q2
      have hret : ∀ (w2 : World) (a' : Act), Below (W.setCell ⟨WL.heap.size + 1, 0, none⟩ (.int .i64 2)).heap.size (W.setCell ⟨WL.heap.size + 1, 0, none⟩ (.int .i64 2)) w2 →
          splitPost [WL.heap.size + 1 + 1, WL.heap.size + 1 + 1 + 1, WL.heap.size + 1 + 1 + 1 + 1, W0.heap.size, W0.heap.size + 1] (PI w WL ([p] ++ [badLine.data.toList])) (PIx w) W .ret a' (((w2.setCell ⟨w.heap.size + 1, 0, none⟩ (.int .i64 2)).setCell ⟨w.heap.size + 1 + 1, 0, none⟩ (.int .i64 221)).drew) := by
        intro w2 a' hB2
        have hz : (W.setCell ⟨WL.heap.size + 1, 0, none⟩ (.int .i64 2)).heap.size = W.heap.size := by simp [World.setCell]
        have hbw : Below w.heap.size w w2 := (i7.setCell (by simp; omega) _).trans (hB2.mono (by rw [hz]; omega))
        have hsz : W.heap.size ≤ w2.heap.size := by rw [← hz]; exact hB2.size
        have g2 : Blk w2 w.heap.size confZ 28 := (i2.other ⟨WL.heap.size + 1, 0, none⟩ (.int .i64 2) (by simp; omega)).below hB2 (by rw [hz]; omega)
        have g3 : Blk w2 (w.heap.size + 1) #[.int .i64 0] 3 := (i3.other ⟨WL.heap.size + 1, 0, none⟩ (.int .i64 2) (by simp; omega)).below hB2 (by rw [hz]; omega)
        have g4 : Blk w2 (w.heap.size + 1 + 1) #[.int .i64 0] 29 := (i4.other ⟨WL.heap.size + 1, 0, none⟩ (.int .i64 2) (by simp; omega)).below hB2 (by rw [hz]; omega)
        refine ⟨⟨by simpa [World.setCell, World.drew] using hsz, fun b hm => ?_⟩, rfl, (g2.other _ _ (by simp)).other _ _ (by simp; omega), (g3.set 0 _).other _ _ (by simp), (g4.other _ _ (by simp)).set 0 _, ?_⟩
        · have hb := hB2.block b (by rw [hz]; simp at hm; omega)
          have hb' := Below.heap_setCell W ⟨WL.heap.size + 1, 0, none⟩ (.int .i64 2) b (by simp at hm ⊢; omega)
          exact ((Below.heap_setCell _ _ _ b (by simp at hm ⊢; omega)).trans (Below.heap_setCell w2 _ _ b (by simp at hm ⊢; omega))).trans (hb.trans hb')
        · have hbb := (hbw.setCell (p := ⟨w.heap.size + 1, 0, none⟩) (by simp) (.int .i64 2)).setCell (p := ⟨w.heap.size + 1 + 1, 0, none⟩) (by simp; omega) (.int .i64 221)
          exact ⟨hbb.os, hbb.tape, hbb.output, hbb.size, hbb.block⟩
      have HR := Lib.hid hret
      clear hret
      have hb1 : badLine.toList.isEmpty = false := by decide +kernel
      have hpos : 0 < badLine.size := by decide
      have hb3 : ((badLine[0].toNat : Int) == 35) = false := rfl
      have hmx : Tryz.prog.follows .mixedOrders = true := by kernel_rfl
      gi_wp2_with (gi_at_call 16; refine (CallsIn.inRound l (callsIn_wide.2 HS.out)).mono ?_; rintro e w2 ⟨rfl, hB2⟩; have r0 := ((i0.set 0 (.int .i64 2)).below hB2 (by simp [World.setCell]; omega)).cell 0; have g2 := ((i2.other ⟨WL.heap.size + 1, 0, none⟩ (.int .i64 2) (by simp; omega)).below hB2 (by simp [World.setCell]; omega)); have f2 := fun i => g2.free i; have r2 := fun i => g2.cell i; have r3 := ((i3.other ⟨WL.heap.size + 1, 0, none⟩ (.int .i64 2) (by simp; omega)).below hB2 (by simp [World.setCell]; omega)).cell 0; have f3 := ((i3.other ⟨WL.heap.size + 1, 0, none⟩ (.int .i64 2) (by simp; omega)).below hB2 (by simp [World.setCell]; omega)).free 0; have r4 := ((i4.other ⟨WL.heap.size + 1, 0, none⟩ (.int .i64 2) (by simp; omega)).below hB2 (by simp [World.setCell]; omega)).cell 0; have f4 := ((i4.other ⟨WL.heap.size + 1, 0, none⟩ (.int .i64 2) (by simp; omega)).below hB2 (by simp [World.setCell]; omega)).free 0)
      simp only [confZ] at r2
      have g2' := Lib.hid g2
      clear g2
      gi_region_with_o (fail)
      all_goals gi_wp2
      all_goals first
        | rw [conf_again w2 _ g2'.out]; exact HR.out w2 _ hB2
        | rw [conf_again (w2.setCell ⟨w.heap.size + 1, 0, none⟩ (.int .i64 2)) _ (g2'.out.other _ _ (by simp))]; exact HR.out w2 _ hB2
        | rw [conf_again ((w2.setCell ⟨w.heap.size + 1, 0, none⟩ (.int .i64 2)).setCell ⟨w.heap.size + 1 + 1, 0, none⟩ (.int .i64 221)) _ ((g2'.out.other _ _ (by simp)).other _ _ (by simp; omega))]; exact HR.out w2 _ hB2
  case done =>
    rintro W ⟨i0, i1, i2, i3, i4, i5, i6, i7, i8⟩ hD
    exact absurd i8 (by rw [show (⟨headBytes.toArray⟩ : ByteArray).data.toList = headBytes from rfl, headCuts]; decide)
  case stop =>
    rintro j W ⟨rfl, i0, i1, i2, i3⟩ hD
    have q1 := i1.cell 0
    have q2 := i2.cell 0
    have p0 : Blk (W.putObj W0.heap.size (.deferred none)) w.heap.size confZ 28 := i0.put _ _ (by omega)
    have p1 : Blk (W.putObj W0.heap.size (.deferred none)) (w.heap.size + 1) #[.int .i64 2] 3 := i1.put _ _ (by omega)
    have p2 : Blk (W.putObj W0.heap.size (.deferred none)) (w.heap.size + 1 + 1) #[.int .i64 221] 29 := i2.put _ _ (by omega)
    gi_wp2
    refine ⟨by simp, .inl ⟨_, _, rfl, run_takeDeferred hD, ?_⟩⟩
    refine ⟨.tuple #[.agg confZ, .int .i64 2, .int .i64 221], ?_, rfl, ?_⟩
    · have c0 := fun i => p0.cell i
      simp only [confZ] at c0
      have c1 := p1.cell 0
      have c2 := p2.cell 0
      simp [results, Tryz.results7, go_sem, c0, c1, c2, confZ]
    · exact (Same.put (S := fun b => w.heap.size ≤ b) (Same.ofBelow i3) _ _ (fun _ => by omega)).below _ (Nat.le_refl _) (fun _ h => h)
end Go.Proofs.YtjokcflpjpophaaGreatDoor
