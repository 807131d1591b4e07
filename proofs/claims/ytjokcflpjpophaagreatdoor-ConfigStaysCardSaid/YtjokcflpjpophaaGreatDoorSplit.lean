/- 'for x := range strings.SplitSeq(s, sep) { .. }' at a separator of one byte: the iterator's contract for every loop body, and the law of the statement for a caller whose body may go on, leave by a jump, or panic. Conditions: the three variables that the iterator captured are there, and the body leaves them alone. -/
import Derived.Test.YtjokcflpjpophaaGreatDoorIndex
namespace Go.Proofs.YtjokcflpjpophaaGreatDoor
open Go.RowKit
attribute [local go_sem] Oper.semAt_some

/-- The pieces of a text between the bytes c. -/
def cuts (c : UInt8) : List UInt8 → List (List UInt8)
  | [] => [[]]
  | x :: l => if x == c then [] :: cuts c l else match cuts c l with
    | [] => [[x]]
    | p :: ps => (x :: p) :: ps

theorem cuts_same {c x : UInt8} (h : (x == c) = true) (l : List UInt8) : cuts c (x :: l) = [] :: cuts c l := by
  show (if x == c then _ else _) = _
  rw [if_pos h]
theorem cuts_other {c x : UInt8} (h : ¬ (x == c) = true) {l p : List UInt8} {ps : List (List UInt8)} (hl : cuts c l = p :: ps) : cuts c (x :: l) = (x :: p) :: ps := by
  show (if x == c then _ else _) = _
  rw [if_neg h, hl]

theorem cuts_ne (c : UInt8) (l : List UInt8) : cuts c l ≠ [] := by
  cases l with
  | nil => simp [cuts]
  | cons x l =>
    unfold cuts
    split
    · simp
    · split <;> simp

theorem indexByte_range (l : List UInt8) (c : UInt8) : Lib.indexByte l c = -1 ∨ ∃ i : Nat, Lib.indexByte l c = i ∧ i < l.length := by
  induction l with
  | nil => exact .inl rfl
  | cons x l ih =>
    unfold Lib.indexByte
    split
    · exact .inr ⟨0, rfl, by simp⟩
    · rcases ih with h | ⟨i, h, hi⟩
      · rw [h]; exact .inl rfl
      · right
        refine ⟨i + 1, ?_, by simp; omega⟩
        rw [h, if_neg (by simp)]
        rfl

theorem cuts_miss (c : UInt8) (l : List UInt8) (h : Lib.indexByte l c = -1) : cuts c l = [l] := by
  induction l with
  | nil => rfl
  | cons x l ih =>
    unfold Lib.indexByte at h
    split at h
    · simp at h
    · rename_i hx
      have hl : Lib.indexByte l c = -1 := by
        rcases indexByte_range l c with h' | ⟨i, h', _⟩
        · exact h'
        · rw [h', if_neg (by simp)] at h; omega
      unfold cuts
      rw [if_neg hx, ih hl]

theorem cuts_hit (c : UInt8) (l : List UInt8) (i : Nat) (h : Lib.indexByte l c = i) : cuts c l = l.take i :: cuts c (l.drop (i + 1)) := by
  induction l generalizing i with
  | nil => simp [Lib.indexByte] at h
  | cons x l ih =>
    unfold Lib.indexByte at h
    split at h
    · rename_i hx
      obtain rfl : i = 0 := by omega
      exact cuts_same hx l
    · rename_i hx
      rcases indexByte_range l c with h' | ⟨j, h', _⟩
      · rw [h', if_pos (by simp)] at h; omega
      · rw [h', if_neg (by simp)] at h
        obtain rfl : i = j + 1 := by omega
        exact cuts_other hx (ih j h')

/-- How much of its text the iterator has still to cut. -/
def leftAt (bs : Nat) (w : World) : Nat := match w.cell? ⟨bs, 0, none⟩ with | some (.string s) => s.size | _ => 0

theorem leftAt_eq {bs : Nat} {w : World} {s : ByteArray} (h : Blk w bs #[.string s] 9) : leftAt bs w = s.size := by
  unfold leftAt; rw [h.cell]; rfl

set_option maxRecDepth 100000 in
set_option maxHeartbeats 2000000 in
/-- THE ITERATOR: each piece is handed to yield in order, till yield says no, or panics. -/
theorem split_iter (n l bsep bs bsave : Nat) (c : UInt8) (all : List (List UInt8)) (J : List (List UInt8) → World → Prop) (Jx : World → Prop) (Jp : List PanicEntry → World → Prop)
    (hsep : ∀ pre W, J pre W → Blk W bsep #[.string ⟨#[c]⟩] 9 ∧ Blk W bsave #[.int .i64 0] 3)
    (hset : ∀ pre W v, J pre W → J pre (W.setCell ⟨bs, 0, none⟩ v))
    (hY : ∀ pre (x : ByteArray) W, J pre W → (∃ rest, all = pre ++ x.data.toList :: rest) → YieldAt Fence.wide (n - 1) Tryz.prog l #[.string x] W fun e W' =>
      (e = .returned (.bool true) ∧ J (pre ++ [x.data.toList]) W' ∧ W'.heap[bs]? = W.heap[bs]?) ∨ (e = .returned (.bool false) ∧ Jx W') ∨ (∃ ch, e = .panicked ch ∧ Jp ch W'))
    (s : ByteArray) (hs : s.size ≤ 9223372036854775807) (hall : all = cuts c s.data.toList) (W : World) (hbs : Blk W bs #[.string s] 9) (h0 : J [] W) :
    CallsIn Fence.wide n Tryz.prog 70 #[.func (.yield l) #[] #[], .pointer (some ⟨bsep, 0, none⟩), .pointer (some ⟨bs, 0, none⟩), .pointer (some ⟨bsave, 0, none⟩)] W fun e W' =>
      ((∃ v, e = .returned v) ∧ J all W') ∨ ((∃ v, e = .returned v) ∧ Jx W') ∨ (∃ ch, e = .panicked ch ∧ Jp ch W') := by
  refine callsIn_of_wp Tryz.func70 rfl trivial ?_ rfl
  simp only [Tryz.ntmps70, List.size_toArray, List.length_cons, List.length_nil, Nat.reduceAdd, Nat.reduceSub, Array.replicate_succ, Array.replicate_zero, List.push_toArray, List.append_toArray, List.nil_append, List.cons_append]
  have hc1 := (hsep _ _ h0).1.cell 0
  have hwf : ∀ f, Fence.wide.fn f := fun _ => trivial
  have hwd : Fence.wide.depth.isSome = false := rfl
  gi_wp2
  gi_loopw [] (fun wr => ∃ (pre : List (List UInt8)) (s' : ByteArray), J pre wr ∧ Blk wr bs #[.string s'] 9 ∧ s'.size ≤ 9223372036854775807 ∧ Hid (all = pre ++ cuts c s'.data.toList)) (fun wr => leftAt bs wr)
  case atStart => exact ⟨[], s, h0, hbs, hs, by rw [hall]; rfl⟩
  case round =>
    obtain ⟨pre, s', hJ, hb, hsz, hcut⟩ := hrel
    have q1 := (hsep _ _ hJ).1.cell 0
    have q2 := (hsep _ _ hJ).2.cell 0
    have q3 := hb.cell 0
    have q4 := hb.free 0
    rcases indexByte_range s'.data.toList c with hm | ⟨i, hi, hil⟩
    · have hone : all = pre ++ [s'.data.toList] := by rw [hcut.out, cuts_miss _ _ hm]
      obtain ⟨fn, tmps, assign, body, hy, hR⟩ := hY pre s' wr hJ ⟨[], hone⟩
      have hmm : (Lib.indexByte s'.data.toList c < 0) := by omega
      have HO := Lib.hid hone
      clear hm hcut hone hall
      gi_wp2_with (gi_at_call 72; refine (callsIn_wide.2 (index_one _ _ _)).mono ?_; rintro e w' ⟨rfl, rfl⟩)
      refine hR.mono ?_
      rintro e W' (⟨rfl, hJ', _⟩ | ⟨rfl, hx⟩ | ⟨ch, rfl, hp⟩)
      · gi_wp2
        go_end0
        exact .inl ⟨⟨_, rfl⟩, by rw [HO.out]; exact hJ'⟩
      · gi_wp2
        go_end0
        exact .inr (.inl ⟨⟨_, rfl⟩, hx⟩)
      · gi_wp2
        exact ⟨rfl, .inr (.inr ⟨ch, rfl, hp⟩)⟩
    · have hcons : cuts c s'.data.toList = (s'.extract 0 i).data.toList :: cuts c (s'.extract (i + 1) s'.size).data.toList := by
        rw [cuts_hit _ _ _ hi, Lib.extract_from_zero, Lib.extract_to_end]
      have hall' : all = pre ++ (s'.extract 0 i).data.toList :: cuts c (s'.extract (i + 1) s'.size).data.toList := by rw [hcut.out, hcons]
      obtain ⟨fn, tmps, assign, body, hy, hR⟩ := hY pre (s'.extract 0 i) wr hJ ⟨_, hall'⟩
      have his : i < s'.size := by rw [Lib.size_eq]; exact hil
      have HO := Lib.hid hall'
      have HI := Lib.hid hi
      clear hcut hall' hcons hall hil hi
      have hidx : ∀ w, Calls Tryz.prog 72 #[.string s', .string ⟨#[c]⟩] w fun e w' => e = .returned (.int .i64 (i : Int)) ∧ w = w' := fun w => by
        have := index_one s' c w
        rw [HI.out] at this
        exact this
      clear HI
      have HX := Lib.hid hidx
      clear hidx
      gi_wp2_with (gi_at_call 72; refine (callsIn_wide.2 (HX.out _)).mono ?_; rintro e w' ⟨rfl, rfl⟩)
      refine hR.mono ?_
      rintro e W' (⟨rfl, hJ', hbk⟩ | ⟨rfl, hx⟩ | ⟨ch, rfl, hp⟩)
      · have hb' : Blk W' bs #[.string s'] 9 := hb.same hbk
        have r1 := (hsep _ _ hJ').1.cell 0
        have r2 := (hsep _ _ hJ').2.cell 0
        have r3 := hb'.cell 0
        have r4 := hb'.free 0
        clear q1 q2 q3 q4
        gi_wp2
        have hb2 : Blk (W'.setCell ⟨bs, 0, none⟩ (.string (s'.extract (i + 1) s'.size))) bs #[.string (s'.extract (i + 1) s'.size)] 9 := hb'.set 0 _
        refine ⟨⟨pre ++ [(s'.extract 0 i).data.toList], s'.extract (i + 1) s'.size, hset _ _ _ hJ', hb2, by simp; omega, ?_⟩, ?_⟩
        · refine Lib.hid ?_
          rw [HO.out]; simp
        · rw [leftAt_eq hb2, leftAt_eq hb]; simp; omega
      · gi_wp2
        exact bodyPost_ret (results_none rfl _ _ _) rfl (.inr (.inl ⟨⟨_, rfl⟩, hx⟩))
      · gi_wp2
        exact ⟨rfl, .inr (.inr ⟨ch, rfl, hp⟩)⟩
end Go.Proofs.YtjokcflpjpophaaGreatDoor
