/- chain.counted, chain.Host: how many labels a host has, at every text that fits the form's reach. -/
import Derived.Test.YtjokcflpjpophaaGreatDoorRange
import Derived.Test.YtjokcflpjpophaaGreatDoorLow
import Derived.Test.YtjokcflpjpophaaGreatDoorShelf
namespace Go.Proofs.YtjokcflpjpophaaGreatDoor
open Go.RowKit
attribute [local go_sem] Oper.semAt_some

/-- strings.SplitSeq: the iterator's value, its three variables laid. -/
theorem splitSeq_calls (s sep : ByteArray) (w : World) : Calls Tryz.prog 42 #[.string s, .string sep, .int .i64 0] w fun e w' =>
    e = .returned (.func (.func 70) #[] #[.pointer (some ⟨w.heap.size + 1, 0, none⟩), .pointer (some ⟨w.heap.size, 0, none⟩), .pointer (some ⟨w.heap.size + 1 + 1, 0, none⟩)]) ∧
    ((w.alloc (.cells #[.string s] 9)).alloc (.cells #[.string sep] 9)).alloc (.cells #[.int .i64 0] 3) = w' := by
  have hmf : ∀ (fn : Fn) (first cap : Array Value) (w : World), (Instr.makeFunc fn first cap).run Tryz.prog w = .ok (.func fn first cap) w := fun _ _ _ _ => rfl
  go_enter Tryz.func42, Tryz.ntmps42
  go_wp2
  go_ret
  exact ⟨rfl, rfl⟩
theorem SplitSeq_calls (s sep : ByteArray) (w : World) : Calls Tryz.prog 15 #[.string s, .string sep] w fun e w' =>
    e = .returned (.func (.func 70) #[] #[.pointer (some ⟨w.heap.size + 1, 0, none⟩), .pointer (some ⟨w.heap.size, 0, none⟩), .pointer (some ⟨w.heap.size + 1 + 1, 0, none⟩)]) ∧
    ((w.alloc (.cells #[.string s] 9)).alloc (.cells #[.string sep] 9)).alloc (.cells #[.int .i64 0] 3) = w' := by
  go_enter Tryz.func15, Tryz.ntmps15
  go_wp2_with (go_at_call 42; refine (splitSeq_calls _ _ _).mono ?_; rintro e w' ⟨rfl, rfl⟩)
  go_ret
  exact ⟨rfl, rfl⟩
theorem labels_calls (s : ByteArray) (w : World) : Calls Tryz.prog 77 #[.string s] w fun e w' =>
    e = .returned (.func (.func 70) #[] #[.pointer (some ⟨w.heap.size + 1, 0, none⟩), .pointer (some ⟨w.heap.size, 0, none⟩), .pointer (some ⟨w.heap.size + 1 + 1, 0, none⟩)]) ∧
    ((w.alloc (.cells #[.string s] 9)).alloc (.cells #[.string ⟨#[46]⟩] 9)).alloc (.cells #[.int .i64 0] 3) = w' := by
  go_enter Tryz.func77, Tryz.ntmps77
  go_wp2_with (go_at_call 15; refine (SplitSeq_calls _ _ _).mono ?_; rintro e w' ⟨rfl, rfl⟩)
  go_ret
  exact ⟨rfl, rfl⟩

def labelSet : List UInt8 := [97, 98, 99, 100, 101, 102, 103, 104, 105, 106, 107, 108, 109, 110, 111, 112, 113, 114, 115, 116, 117, 118, 119, 120, 121, 122, 48, 49, 50, 51, 52, 53, 54, 55, 56, 57, 45]

theorem trim_label (l : ByteArray) (hl : l.size ≤ 9223372036854775807) (w : World) :
    Calls Tryz.prog 78 #[.string l, .string ⟨#[97, 98, 99, 100, 101, 102, 103, 104, 105, 106, 107, 108, 109, 110, 111, 112, 113, 114, 115, 116, 117, 118, 119, 120, 121, 122, 48, 49, 50, 51, 52, 53, 54, 55, 56, 57, 45]⟩] w fun e w' =>
      e = .returned (.string ⟨(Lib.trimS l.data.toList labelSet).toArray⟩) ∧ Below w.heap.size w w' :=
  Any.strings_Trim_laid Tryz.lays160 (by kernel_rfl) l ⟨#[97, 98, 99, 100, 101, 102, 103, 104, 105, 106, 107, 108, 109, 110, 111, 112, 113, 114, 115, 116, 117, 118, 119, 120, 121, 122, 48, 49, 50, 51, 52, 53, 54, 55, 56, 57, 45]⟩ w hl (by decide) (ascii_of_all (by decide))

/-- May a label be so (its letters small)? -/
def okLabel (l : List UInt8) : Bool := !l.isEmpty && decide (l.length ≤ 63) && (Lib.trimS l labelSet).isEmpty && !(l.getD 0 0 == 45) && !(l.getD (l.length - 1) 0 == 45)

def AllOk (pre : List (List UInt8)) : Prop := pre.all okLabel = true
def SomeBad (l : List UInt8) : Prop := (cuts 46 (l.map low)).all okLabel = false
def cnt (pre : List (List UInt8)) : Int := (pre.length : Int)
theorem cnt_snoc (pre : List (List UInt8)) (x : List UInt8) : cnt (pre ++ [x]) = cnt pre + 1 := by simp [cnt]

theorem cuts_length (c : UInt8) (l : List UInt8) : (cuts c l).length ≤ l.length + 1 := by
  induction l with
  | nil => simp [cuts]
  | cons x l ih =>
    by_cases h : (x == c) = true
    · rw [cuts_same h]; simp; exact ih
    · cases hl : cuts c l with
      | nil => exact absurd hl (cuts_ne c l)
      | cons p ps => rw [cuts_other h hl]; rw [hl] at ih; simp at ih ⊢; omega
theorem cuts_mem_le (c : UInt8) (l : List UInt8) : ∀ p ∈ cuts c l, p.length ≤ l.length := by
  induction l with
  | nil => simp [cuts]
  | cons x l ih =>
    by_cases h : (x == c) = true
    · rw [cuts_same h]
      intro p hp
      rcases List.mem_cons.1 hp with rfl | hp
      · simp
      · have := ih p hp; simp; omega
    · cases hl : cuts c l with
      | nil => exact absurd hl (cuts_ne c l)
      | cons p ps =>
        rw [cuts_other h hl]
        rw [hl] at ih
        intro q hq
        rcases List.mem_cons.1 hq with rfl | hq
        · have := ih p (by simp); simp; omega
        · have := ih q (by simp [hq]); simp; omega

/-- How many labels a host has; 0: it is none. -/
def counted (l : List UInt8) : Nat := if (cuts 46 (l.map low)).all okLabel = true ∧ l.length ≤ 253 then (cuts 46 (l.map low)).length else 0

theorem byte_is (u : UInt8) (n : Nat) (hn : n < 256) : (u == UInt8.ofNat n) = ((u.toNat : Int) == (n : Int)) := by
  rw [Bool.eq_iff_iff, beq_iff_eq, beq_iff_eq]
  constructor
  · rintro rfl
    simp
    omega
  · intro h
    apply UInt8.toNat_inj.1
    simp
    omega
theorem getD_byte (x : ByteArray) (i : Nat) (hi : i < x.size) : x.data.toList.getD i 0 = x[i] := by
  have h : i < x.data.toList.length := by rw [← Lib.size_eq]; exact hi
  rw [List.getD_eq_getElem?_getD, List.getElem?_eq_getElem h]
  rfl
theorem okLabel_eq (x : ByteArray) (hpos : 0 < x.size) : okLabel x.data.toList = (decide (x.size ≤ 63) && (Lib.trimS x.data.toList labelSet).isEmpty && !((x[0].toNat : Int) == 45) && !((x[x.size - 1].toNat : Int) == 45)) := by
  have he : x.data.toList.isEmpty = false := by
    cases h : x.data.toList with
    | nil => have := Lib.size_eq x; rw [h] at this; have h2 : x.size = 0 := this; omega
    | cons a l => rfl
  unfold okLabel
  rw [he, ← Lib.size_eq, getD_byte x 0 hpos, getD_byte x (x.size - 1) (by omega)]
  have h1 := byte_is x[0] 45 (by omega)
  have h2 := byte_is (x[x.size - 1]'(by omega)) 45 (by omega)
  rw [show (45 : UInt8) = UInt8.ofNat 45 from rfl, h1, h2]
  rfl

set_option maxRecDepth 100000 in
set_option maxHeartbeats 2000000 in
theorem counted_calls (s : ByteArray) (hs : s.size ≤ 140737488351240) (w : World) :
    Calls Tryz.prog 52 #[.string s] w fun e w' => e = .returned (.int .i64 (counted s.data.toList)) ∧ Below w.heap.size w w' := by
  refine (callsIn_wide (n := 3)).1 (callsIn_of_wp_marks Tryz.func52 rfl trivial ?_)
  simp only [Tryz.ntmps52, List.size_toArray, List.length_cons, List.length_nil, Nat.reduceAdd, Nat.reduceSub, Array.replicate_succ, Array.replicate_zero, List.push_toArray, List.append_toArray, List.nil_append, List.cons_append]
  rw [wpIn_wide]
  have hsz : (⟨(s.data.toList.map low).toArray⟩ : ByteArray).size ≤ 140737488351240 := by
    show (s.data.toList.map low).toArray.size ≤ _
    rw [List.size_toArray, List.length_map, ← Lib.size_eq]
    exact hs
  go_wp2_with fail
  refine (lowered_calls s hs _).mono ?_
  rintro e w1 ⟨rfl, hB1⟩
  have hz1 : w.heap.size + 2 ≤ w1.heap.size := by have := hB1.size; simp at this; omega
  have c0 : Blk w1 w.heap.size #[.int .i64 0] 3 := ((Blk.new w #[.int .i64 0] 3).alloc _).below hB1 (by simp; omega)
  have c1 : Blk w1 (w.heap.size + 1) #[.int .i64 0] 3 := by
    have := (Blk.new (w.alloc (.cells #[.int .i64 0] 3)) #[.int .i64 0] 3).below hB1 (by simp)
    rwa [World.size_alloc] at this
  have hBw : Below w.heap.size w w1 := (((Below.refl _ w).alloc (Nat.le_refl _) _).alloc (by simp) _).trans (hB1.mono (by simp; omega))
  go_wp2_with (go_at_call 77; refine (labels_calls _ _).mono ?_; rintro e w' ⟨rfl, rfl⟩)
  have b2 := ((Blk.new w1 #[.string ⟨(s.data.toList.map low).toArray⟩] 9).alloc (.cells #[.string ⟨#[46]⟩] 9)).alloc (.cells #[.int .i64 0] 3)
  have b1 := (Blk.new (w1.alloc (.cells #[.string ⟨(s.data.toList.map low).toArray⟩] 9)) #[.string ⟨#[46]⟩] 9).alloc (.cells #[.int .i64 0] 3)
  have b3 := Blk.new ((w1.alloc (.cells #[.string ⟨(s.data.toList.map low).toArray⟩] 9)).alloc (.cells #[.string ⟨#[46]⟩] 9)) #[.int .i64 0] 3
  have d0 := ((c0.alloc (.cells #[.string ⟨(s.data.toList.map low).toArray⟩] 9)).alloc (.cells #[.string ⟨#[46]⟩] 9)).alloc (.cells #[.int .i64 0] 3)
  have d1 := ((c1.alloc (.cells #[.string ⟨(s.data.toList.map low).toArray⟩] 9)).alloc (.cells #[.string ⟨#[46]⟩] 9)).alloc (.cells #[.int .i64 0] 3)
  have hBW := ((hBw.alloc (by omega) (.cells #[.string ⟨(s.data.toList.map low).toArray⟩] 9)).alloc (by simp; omega) (.cells #[.string ⟨#[46]⟩] 9)).alloc (by simp; omega) (.cells #[.int .i64 0] 3)
  simp only [World.size_alloc] at b1 b2 b3
  obtain ⟨W0, hW0⟩ : ∃ W0, ((w1.alloc (.cells #[.string ⟨(s.data.toList.map low).toArray⟩] 9)).alloc (.cells #[.string ⟨#[46]⟩] 9)).alloc (.cells #[.int .i64 0] 3) = W0 := ⟨_, rfl⟩
  have hz0 : W0.heap.size = w1.heap.size + 3 := by rw [← hW0]; simp
  rw [hW0] at b1 b2 b3 d0 d1 hBW ⊢
  have hz00 : w1.heap.size + 3 ≤ W0.heap.size := by omega
  clear hW0 c0 c1 hBw hB1 hz0
  refine (wpIn_wide (n := 3)).1 (wpIn_rangeSplit 46 ⟨(s.data.toList.map low).toArray⟩ (by omega) _ _ _ rfl b1 b2 b3 (by omega) (by omega)
    (fun pre W => Blk W w.heap.size #[.int .i64 0] 3 ∧ Blk W (w.heap.size + 1) #[.int .i64 (cnt pre)] 3 ∧ AllOk pre ∧ Below w.heap.size w W)
    (fun j W => j = .ret ∧ Blk W w.heap.size #[.int .i64 0] 3 ∧ SomeBad s.data.toList ∧ Below w.heap.size w W)
    ?hI ?hIx ⟨d0, d1, rfl, hBW⟩
    (fun x => { tmps := #[.string s, undef, .pointer (some ⟨w.heap.size, 0, none⟩), .pointer (some ⟨w.heap.size + 1, 0, none⟩), .string x, .string s, .string ⟨(s.data.toList.map low).toArray⟩,
      .func (.func 70) #[] #[.pointer (some ⟨w1.heap.size + 1, 0, none⟩), .pointer (some ⟨w1.heap.size, 0, none⟩), .pointer (some ⟨w1.heap.size + 1 + 1, 0, none⟩)], .string x,
      undef, undef, undef, undef, undef, undef, undef, undef, undef, undef, undef, undef, undef, undef, undef, undef, undef, undef, undef, undef, undef, undef, undef, undef, undef, undef, undef, undef, undef, undef, undef], defers := [] }) ?assign ?body ?done ?stop)
  case hI =>
    rintro pre A B hS ⟨i0, i1, i2, i3⟩
    exact ⟨i0.kept hS (by omega), i1.kept hS (by omega), i2, i3.trans (hS.below _ i3.size (by omega))⟩
  case hIx =>
    rintro j A B hS ⟨i0, i1, i2, i3⟩
    exact ⟨i0, i1.kept hS (by omega), i2, i3.trans (hS.below _ i3.size (by omega))⟩
  case assign =>
    intro l x W K hK
    gi_wp2
    exact hK
  case body =>
    rintro l pre x W ⟨i0, i1, i2, i3⟩ hrest hsz2
    have q0 := i0.cell 0
    have q0f := i0.free 0
    have q1 := i1.cell 0
    have q1f := i1.free 0
    have hwf : ∀ f, Fence.wide.fn f := fun _ => trivial
    have hwd : Fence.wide.depth.isSome = false := rfl
    have hxl : x.size ≤ 140737488351240 := by
      obtain ⟨rest, hr⟩ := hrest
      have h1 := cuts_mem_le 46 (s.data.toList.map low) x.data.toList (by rw [hr]; simp)
      rw [List.length_map, ← Lib.size_eq, ← Lib.size_eq] at h1
      omega
    have hpl : pre.length ≤ 140737488351240 := by
      obtain ⟨rest, hr⟩ := hrest
      have h1 := cuts_length 46 (s.data.toList.map low)
      rw [hr, List.length_map, ← Lib.size_eq] at h1
      simp at h1
      omega
    have hp0 : 0 ≤ cnt pre := by unfold cnt; omega
    have hp1 : cnt pre ≤ 140737488351240 := by unfold cnt; omega
    clear hpl
    have hbs : ∀ b ∈ [w1.heap.size, w1.heap.size + 1, w1.heap.size + 1 + 1, W0.heap.size, W0.heap.size + 1], w.heap.size + 2 ≤ b ∧ b < W.heap.size := by
      intro b hb; simp at hb; omega
    have hbad : okLabel x.data.toList = false → ∀ (W' : World) (a' : Act), Below W.heap.size W W' →
        splitPost [w1.heap.size, w1.heap.size + 1, w1.heap.size + 1 + 1, W0.heap.size, W0.heap.size + 1] (fun W => Blk W w.heap.size #[.int .i64 0] 3 ∧ Blk W (w.heap.size + 1) #[.int .i64 (cnt (pre ++ [x.data.toList]))] 3 ∧ AllOk (pre ++ [x.data.toList]) ∧ Below w.heap.size w W)
          (fun j W => j = .ret ∧ Blk W w.heap.size #[.int .i64 0] 3 ∧ SomeBad s.data.toList ∧ Below w.heap.size w W) W .ret a' (W'.setCell ⟨w.heap.size, 0, none⟩ (.int .i64 0)) := by
      intro hno W' a' hb
      refine ⟨⟨by simp [World.setCell]; exact hb.size, fun b hm => ?_⟩, rfl, (i0.below hb i0.lt).set 0 _, ?_, (i3.trans (hb.mono i3.size)).setCell (Nat.le_refl _) _⟩
      · have := hbs b hm
        exact (Below.heap_setCell W' _ _ b (by simp; omega)).trans (hb.block b this.2)
      · obtain ⟨rest, hr⟩ := hrest
        unfold SomeBad
        rw [hr]
        simp [hno]
    have hgood : okLabel x.data.toList = true → ∀ (W' : World) (a' : Act), Below W.heap.size W W' →
        splitPost [w1.heap.size, w1.heap.size + 1, w1.heap.size + 1 + 1, W0.heap.size, W0.heap.size + 1] (fun W => Blk W w.heap.size #[.int .i64 0] 3 ∧ Blk W (w.heap.size + 1) #[.int .i64 (cnt (pre ++ [x.data.toList]))] 3 ∧ AllOk (pre ++ [x.data.toList]) ∧ Below w.heap.size w W)
          (fun j W => j = .ret ∧ Blk W w.heap.size #[.int .i64 0] 3 ∧ SomeBad s.data.toList ∧ Below w.heap.size w W) W .normal a' (W'.setCell ⟨w.heap.size + 1, 0, none⟩ (.int .i64 (cnt pre + 1))) := by
      intro hyes W' a' hb
      refine ⟨⟨by simp [World.setCell]; exact hb.size, fun b hm => ?_⟩, (i0.below hb i0.lt).other _ _ (by simp), ?_, ?_, (i3.trans (hb.mono i3.size)).setCell (by simp) _⟩
      · have := hbs b hm
        exact (Below.heap_setCell W' _ _ b (by simp; omega)).trans (hb.block b this.2)
      · have := (i1.below hb i1.lt).set 0 (.int .i64 (cnt pre + 1))
        rw [cnt_snoc]
        exact this
      · unfold AllOk at i2 ⊢
        simp [hyes] at i2 ⊢
        exact i2
    have HB := Lib.hid hbad
    have HG := Lib.hid hgood
    clear hbad hgood hrest hbs
    by_cases hx0 : x.size = 0
    · have he : x.toList = [] := by rw [toList_data]; exact List.length_eq_zero_iff.1 (by rw [← Lib.size_eq]; exact hx0)
      have hno : okLabel x.data.toList = false := by rw [← toList_data, he]; rfl
      have HN := Lib.hid hno
      clear hx0 hno
      gi_wp2
      exact HB.out HN.out W _ (Below.refl _ _)
    · have hpos : 0 < x.size := by omega
      have he : ¬ x.toList = [] := by rw [toList_data]; intro h; have := Lib.size_eq x; rw [h] at this; have h2 : x.size = 0 := this; omega
      have hok := okLabel_eq x hpos
      have hlast : x.size - 1 < x.size := by omega
      have hl0 : (0 : Int) ≤ (x.size : Int) - 1 := by omega
      have HK := Lib.hid hok
      clear hx0 hok
      by_cases hL : x.size ≤ 63
      · by_cases hT : Lib.trimS x.data.toList labelSet = []
        · by_cases hF : (x[0].toNat : Int) = 45
          · have HN : Hid (okLabel x.data.toList = false) := by rw [HK.out, hF]; exact Lib.hid (by simp)
            gi_wp2_with (gi_at_call 78; refine (CallsIn.inRound l (callsIn_wide.2 (trim_label x (by omega) W))).mono ?_; rintro e w2 ⟨rfl, hB2⟩; have r0 := (i0.below hB2 i0.lt).cell 0; have r0f := (i0.below hB2 i0.lt).free 0; have r1 := (i1.below hB2 i1.lt).cell 0; have r1f := (i1.below hB2 i1.lt).free 0)
            exact HB.out HN.out _ _ (by assumption)
          · by_cases hZ : (x[x.size - 1].toNat : Int) = 45
            · have HN : Hid (okLabel x.data.toList = false) := by rw [HK.out, hZ]; exact Lib.hid (by simp)
              gi_wp2_with (gi_at_call 78; refine (CallsIn.inRound l (callsIn_wide.2 (trim_label x (by omega) W))).mono ?_; rintro e w2 ⟨rfl, hB2⟩; have r0 := (i0.below hB2 i0.lt).cell 0; have r0f := (i0.below hB2 i0.lt).free 0; have r1 := (i1.below hB2 i1.lt).cell 0; have r1f := (i1.below hB2 i1.lt).free 0)
              exact HB.out HN.out _ _ (by assumption)
            · have HN : Hid (okLabel x.data.toList = true) := by rw [HK.out, hT]; exact Lib.hid (by simp [hL, hF, hZ])
              have hb1 : x.toList.isEmpty = false := by simpa using he
              have hb2 : decide (63 < (x.size : Int)) = false := by simp; omega
              have hb3 : ((x[0].toNat : Int) == 45) = false := by simpa using hF
              have hb4 : ((x[x.size - 1].toNat : Int) == 45) = false := by simpa using hZ
              gi_wp2_with (gi_at_call 78; refine (CallsIn.inRound l (callsIn_wide.2 (trim_label x (by omega) W))).mono ?_; rintro e w2 ⟨rfl, hB2⟩; have r0 := (i0.below hB2 i0.lt).cell 0; have r0f := (i0.below hB2 i0.lt).free 0; have r1 := (i1.below hB2 i1.lt).cell 0; have r1f := (i1.below hB2 i1.lt).free 0)
              exact HG.out HN.out _ _ (by assumption)
        · have HN : Hid (okLabel x.data.toList = false) := by rw [HK.out]; exact Lib.hid (by simp [hT])
          gi_wp2_with (gi_at_call 78; refine (CallsIn.inRound l (callsIn_wide.2 (trim_label x (by omega) W))).mono ?_; rintro e w2 ⟨rfl, hB2⟩; have r0 := (i0.below hB2 i0.lt).cell 0; have r0f := (i0.below hB2 i0.lt).free 0; have r1 := (i1.below hB2 i1.lt).cell 0; have r1f := (i1.below hB2 i1.lt).free 0)
          exact HB.out HN.out _ _ (by assumption)
      · have HN : Hid (okLabel x.data.toList = false) := by rw [HK.out]; exact Lib.hid (by simp [hL])
        gi_wp2
        exact HB.out HN.out _ _ (Below.refl _ _)
  case done =>
    rintro W ⟨i0, i1, i2, i3⟩ hD
    have q0 := i0.cell 0
    have q0f := i0.free 0
    have q1 := i1.cell 0
    have hcl : cnt (cuts 46 (s.data.toList.map low)) ≤ 140737488351241 := by
      have h1 := cuts_length 46 (s.data.toList.map low)
      rw [List.length_map, ← Lib.size_eq] at h1
      unfold cnt
      omega
    have hc0 : 0 ≤ cnt (cuts 46 (s.data.toList.map low)) := by unfold cnt; omega
    by_cases h253 : s.size ≤ 253
    · have hcount : ((counted s.data.toList : Nat) : Int) = cnt (cuts 46 (s.data.toList.map low)) := by
        unfold counted cnt
        rw [if_pos ⟨i2, by rw [← Lib.size_eq]; exact h253⟩]
      have HC := Lib.hid hcount
      clear hcount
      gi_wp2
      go_wp2
      have hD2 : (W.setCell ⟨w.heap.size, 0, none⟩ (.int .i64 (cnt (cuts 46 (s.data.toList.map low))))).heap[W0.heap.size]? = some (.deferred (some [])) := (Below.heap_setCell W _ _ _ (by simp; omega)).trans hD
      have hq2 : Blk ((W.setCell ⟨w.heap.size, 0, none⟩ (.int .i64 (cnt (cuts 46 (s.data.toList.map low))))).putObj W0.heap.size (.deferred none)) w.heap.size #[.int .i64 (cnt (cuts 46 (s.data.toList.map low)))] 3 := (i0.set 0 _).put _ _ (by omega)
      refine ⟨by simp, .inl ⟨_, _, rfl, run_takeDeferred hD2, ?_⟩⟩
      refine ⟨.int .i64 (cnt (cuts 46 (s.data.toList.map low))), ?_, by rw [HC.out], ?_⟩
      · have hqc := hq2.cell 0
        simp [results, Tryz.results52, go_sem, hqc]
      · exact (Same.put (S := fun b => w.heap.size ≤ b) (Same.ofBelow (i3.setCell (Nat.le_refl _) _)) _ _ (fun _ => by omega)).below _ (Nat.le_refl _) (fun _ h => h)
    · have hcount : counted s.data.toList = 0 := by
        unfold counted
        rw [if_neg (by rw [← Lib.size_eq]; omega)]
      have HC := Lib.hid hcount
      clear hcount
      gi_wp2
      go_wp2
      have hD2 : (W.setCell ⟨w.heap.size, 0, none⟩ (.int .i64 0)).heap[W0.heap.size]? = some (.deferred (some [])) := (Below.heap_setCell W _ _ _ (by simp; omega)).trans hD
      have hq2 : Blk ((W.setCell ⟨w.heap.size, 0, none⟩ (.int .i64 0)).putObj W0.heap.size (.deferred none)) w.heap.size #[.int .i64 0] 3 := (i0.set 0 _).put _ _ (by omega)
      refine ⟨by simp, .inl ⟨_, _, rfl, run_takeDeferred hD2, ?_⟩⟩
      refine ⟨.int .i64 0, ?_, by rw [HC.out]; rfl, ?_⟩
      · have hqc := hq2.cell 0
        simp [results, Tryz.results52, go_sem, hqc]
      · exact (Same.put (S := fun b => w.heap.size ≤ b) (Same.ofBelow (i3.setCell (Nat.le_refl _) _)) _ _ (fun _ => by omega)).below _ (Nat.le_refl _) (fun _ h => h)
  case stop =>
    rintro j W ⟨rfl, i0, i2, i3⟩ hD
    have q0 := i0.cell 0
    have hcount : counted s.data.toList = 0 := by
      unfold counted
      rw [if_neg]
      intro h
      have := i2
      unfold SomeBad at this
      rw [h.1] at this
      cases this
    have hq : Blk (W.putObj W0.heap.size (.deferred none)) w.heap.size #[.int .i64 0] 3 := i0.put _ _ (by omega)
    have HC := Lib.hid hcount
    clear hcount
    gi_wp2
    refine ⟨by simp, .inl ⟨_, _, rfl, run_takeDeferred hD, ?_⟩⟩
    refine ⟨.int .i64 0, ?_, by rw [HC.out]; rfl, ?_⟩
    · have hqc := hq.cell 0
      simp [results, Tryz.results52, go_sem, hqc]
    · exact (Same.put (S := fun b => w.heap.size ≤ b) (Same.ofBelow i3) _ _ (fun _ => by omega)).below _ (Nat.le_refl _) (fun _ h => h)

/-- chain.Host. -/
theorem Host_calls (s : ByteArray) (hs : s.size ≤ 140737488351240) (w : World) :
    Calls Tryz.prog 22 #[.string s] w fun e w' => e = .returned (.bool (decide (0 < counted s.data.toList))) ∧ Below w.heap.size w w' := by
  go_enter Tryz.func22, Tryz.ntmps22
  go_wp2_with (go_at_call 52; refine (counted_calls s hs _).mono ?_; rintro e w' ⟨rfl, hB⟩)
  go_ret
  exact ⟨by simp, hB⟩
end Go.Proofs.YtjokcflpjpophaaGreatDoor
