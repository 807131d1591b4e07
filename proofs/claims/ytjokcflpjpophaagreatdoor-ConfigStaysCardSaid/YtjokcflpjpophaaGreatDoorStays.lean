/- The plain law of ConfigStays at the texts that the law joins. Conditions: the three texts hold no end of line. -/
import Derived.Test.YtjokcflpjpophaaGreatDoorSpec
import Derived.Lib.SplitLaws
import Derived.Lib.CutLaws
import Derived.Lib.IndexBytes
namespace Go.Proofs.YtjokcflpjpophaaGreatDoor
open Go.RowKit

/-- Refusals are no OK. -/
def NZ {α : Type} (x : Except Int α) : Prop := ∀ e, x = .error e → e ≠ 0
theorem NZ.ok {α : Type} (v : α) : NZ (.ok v : Except Int α) := fun e h => by cases h
theorem NZ.numE (s : ByteArray) (lo hi : Int) : NZ (numE s lo hi) := fun e h => by
  unfold Go.Proofs.YtjokcflpjpophaaGreatDoor.numE at h
  split at h
  · cases h
  · cases h; decide
theorem NZ.nameE {α : Type} {b : Bool} {k : Except Int α} (h : NZ k) : NZ (nameE b k) := fun e he => by
  unfold Go.Proofs.YtjokcflpjpophaaGreatDoor.nameE at he
  split at he
  · exact h e he
  · cases he; decide
theorem NZ.onceE (v : Slot) : NZ (onceE v) := fun e h => by
  unfold Go.Proofs.YtjokcflpjpophaaGreatDoor.onceE at h
  split at h
  · cases h; decide
  · cases h
theorem NZ.putE {α β : Type} (l : List α) (x : α) (f : α → Bool) (k : List α → β) : NZ (putE l x f k) := fun e h => by
  unfold Go.Proofs.YtjokcflpjpophaaGreatDoor.putE at h
  split at h
  · cases h; decide
  · split at h
    · cases h; decide
    · cases h
theorem NZ.bindE {α β : Type} {x : Except Int α} {f : α → Except Int β} (h : NZ x) (k : ∀ v, NZ (f v)) : NZ (bindE x f) := fun e he => by
  unfold Go.Proofs.YtjokcflpjpophaaGreatDoor.bindE at he
  split at he
  · exact k _ e he
  · rename_i e' ; cases he; exact h e rfl
theorem NZ.hostRest : ∀ (W : List ByteArray) (h : HostL), NZ (hostRest W h)
  | [], h => NZ.ok _
  | [x], h => NZ.ok _
  | k :: x :: r, h => by
    unfold Go.Proofs.YtjokcflpjpophaaGreatDoor.hostRest
    split
    · exact NZ.nameE (NZ.hostRest r _)
    · exact NZ.nameE (NZ.hostRest r _)
theorem NZ.step (k : Nat) (W : List ByteArray) (v : Slot) : NZ (step k W v) := by
  have one : ∀ lo hi, NZ (stepOne lo hi W v) := fun lo hi => NZ.bindE (NZ.numE _ _ _) fun _ => NZ.onceE _
  unfold Go.Proofs.YtjokcflpjpophaaGreatDoor.step
  split
  · exact one _ _
  · exact one _ _
  · exact one _ _
  · exact one _ _
  · exact one _ _
  · exact NZ.bindE (NZ.numE _ _ _) fun _ => NZ.bindE (NZ.numE _ _ _) fun _ => NZ.onceE _
  · exact NZ.nameE (NZ.bindE (NZ.numE _ _ _) fun _ => NZ.bindE (NZ.numE _ _ _) fun _ => NZ.onceE _)
  · exact NZ.nameE (NZ.onceE _)
  · exact NZ.nameE (NZ.nameE (NZ.nameE (NZ.bindE (NZ.hostRest _ _) fun _ => NZ.putE _ _ _ _)))
  · exact NZ.nameE (NZ.bindE (NZ.numE _ _ _) fun _ => NZ.nameE (NZ.nameE (NZ.putE _ _ _ _)))
  · exact NZ.nameE (NZ.nameE (NZ.nameE (NZ.putE _ _ _ _)))

theorem placeIn_some : ∀ (l : List ByteArray) (x : ByteArray) (n k : Nat), placeIn x l n = some k → n ≤ k ∧ ∃ y, l[k - n]? = some y ∧ x.data = y.data
  | [], x, n, k, h => by cases h
  | y :: r, x, n, k, h => by
    unfold placeIn at h
    split at h
    · cases h; exact ⟨Nat.le_refl _, y, by simp, by assumption⟩
    · obtain ⟨h1, z, h2, h3⟩ := placeIn_some r x (n + 1) k h
      refine ⟨by omega, z, ?_, h3⟩
      rw [show k - n = (k - (n + 1)) + 1 by omega, List.getElem?_cons_succ]
      exact h2
theorem kindOf_inj {x y : ByteArray} {k : Nat} (hx : kindOf x = some k) (hy : kindOf y = some k) : x.data = y.data := by
  obtain ⟨_, z, h1, h2⟩ := placeIn_some _ _ _ _ hx
  obtain ⟨_, z', h3, h4⟩ := placeIn_some _ _ _ _ hy
  rw [h1] at h3
  cases h3
  exact h2.trans h4.symm

/-- A line's first word. -/
def wordL (s : ByteArray) : List UInt8 := s.data.toList.takeWhile (· != 32)
theorem take_miss : ∀ (l : List UInt8) (c : UInt8), Lib.indexByte l c = -1 → l.takeWhile (· != c) = l
  | [], c, _ => rfl
  | b :: l, c, h => by
    have hge := Lib.indexByte_ge l c
    unfold Lib.indexByte at h
    by_cases hb : (b == c) = true
    · rw [if_pos hb] at h; omega
    · rw [if_neg hb] at h
      by_cases hm : (Lib.indexByte l c == -1) = true
      · rw [List.takeWhile_cons, if_pos (by simpa [bne] using hb), take_miss l c (beq_iff_eq.1 hm)]
      · rw [if_neg hm] at h; omega
theorem take_hit : ∀ (l : List UInt8) (c : UInt8) (i : Nat), Lib.indexByte l c = i → l.takeWhile (· != c) = l.take i
  | [], c, i, h => by simp [Lib.indexByte] at h
  | b :: l, c, i, h => by
    have hge := Lib.indexByte_ge l c
    unfold Lib.indexByte at h
    by_cases hb : (b == c) = true
    · rw [if_pos hb] at h
      obtain rfl : i = 0 := by omega
      simp [List.takeWhile_cons, beq_iff_eq.1 hb]
    · rw [if_neg hb] at h
      by_cases hm : (Lib.indexByte l c == -1) = true
      · rw [if_pos hm] at h; omega
      · rw [if_neg hm] at h
        have hm' : Lib.indexByte l c ≠ -1 := fun e => hm (by rw [e]; rfl)
        obtain ⟨j, rfl⟩ : ∃ j, i = j + 1 := ⟨i - 1, by omega⟩
        have hj : Lib.indexByte l c = (j : Int) := by omega
        rw [List.takeWhile_cons, if_pos (by simpa [bne] using hb), take_hit l c j hj, List.take_succ_cons]
theorem first_word (s : ByteArray) : (wd (wordsOf s) 0).data.toList = wordL s := by
  have hi : Lib.indexB s ⟨#[32]⟩ = Lib.indexByte s.data.toList 32 := Lib.index_one s.data.toList 32
  unfold wordL wordsOf
  rcases Lib.indexB_cases s ⟨#[32]⟩ with h | ⟨i, h, _⟩
  · rw [Lib.countB_miss _ _ h, Lib.splitB_zero, take_miss _ _ (hi.symm.trans h)]
    rfl
  · rw [Lib.countB_hit _ _ i (by decide) h, Nat.add_comm 1, Lib.splitB_hit _ _ _ _ i h, take_hit _ _ i (hi.symm.trans h)]
    show (s.extract 0 (i + 0)).data.toList = _
    rw [Lib.extract_from_zero, Nat.add_zero]

theorem act_at {x : ByteArray} {k : Nat} {f : Slot → Except Int Slot} (h : act x = .on k f) : x.size ≠ 0 ∧ kindOf (wd (wordsOf x) 0) = some k ∧ f = step k (wordsOf x) := by
  unfold act at h
  split at h
  · cases h
  · rename_i hx
    unfold actW at h
    split at h
    · cases h
    · rename_i k' hk
      split at h
      · cases h
      · split at h
        · cases h; exact ⟨fun e => hx (.inl e), hk, rfl⟩
        · cases h
theorem act_bad {x : ByteArray} {e : Int} (h : act x = .bad e) : e ≠ 0 := by
  unfold act at h
  split at h
  · cases h
  · unfold actW at h
    split at h
    · cases h; decide
    · split at h
      · cases h; decide
      · split at h
        · cases h
        · cases h; decide
theorem act_words {a b : ByteArray} {k : Nat} {f g : Slot → Except Int Slot} (ha : act a = .on k f) (hb : act b = .on k g) : wordL a = wordL b ∧ a.size ≠ 0 ∧ b.size ≠ 0 := by
  obtain ⟨h1, h2, _⟩ := act_at ha
  obtain ⟨h3, h4, _⟩ := act_at hb
  have := kindOf_inj h2 h4
  exact ⟨by rw [← first_word a, ← first_word b, this], h1, h3⟩
theorem act_note (note x : ByteArray) (h : x.data.toList = 35 :: note.data.toList) : act x = .idle := by
  unfold act
  rw [if_pos (.inr (by rw [h]; rfl))]
theorem act_empty (x : ByteArray) (h : x.data.toList = []) : act x = .idle := by
  unfold act
  have : x.size = 0 := by rw [Lib.size_eq, h]; rfl
  rw [if_pos (.inl this)]

theorem cuts_last : ∀ (c : UInt8) (l : List UInt8), ¬ c ∈ l → cuts c l = [l]
  | c, [], _ => rfl
  | c, x :: l, h => by
    have h1 : ¬ (x == c) = true := fun e => h (by rw [← beq_iff_eq.1 e]; exact List.mem_cons_self)
    exact cuts_other h1 (cuts_last c l fun e => h (List.mem_cons_of_mem _ e))
theorem cuts_line : ∀ (c : UInt8) (l r : List UInt8), ¬ c ∈ l → cuts c (l ++ c :: r) = l :: cuts c r
  | c, [], r, _ => cuts_same (by simp) r
  | c, x :: l, r, h => by
    have h1 : ¬ (x == c) = true := fun e => h (by rw [← beq_iff_eq.1 e]; exact List.mem_cons_self)
    exact cuts_other h1 (cuts_line c l r fun e => h (List.mem_cons_of_mem _ e))

/-- 'host a.b leaf key'; 'backend one 1 a.b root'. -/
def line1 : List UInt8 := [104, 111, 115, 116, 32, 97, 46, 98, 32, 108, 101, 97, 102, 32, 107, 101, 121]
def line2 : List UInt8 := [98, 97, 99, 107, 101, 110, 100, 32, 111, 110, 101, 32, 49, 32, 97, 46, 98, 32, 114, 111, 111, 116]

section
variable (a b note one two : ByteArray) (ha : ¬ (10 : UInt8) ∈ a.data.toList) (hb : ¬ (10 : UInt8) ∈ b.data.toList) (hn : ¬ (10 : UInt8) ∈ note.data.toList)
include ha hb

theorem pieces_one (h1 : one.data.toList = line1 ++ 10 :: (line2 ++ 10 :: (a.data.toList ++ 10 :: b.data.toList))) : pieces 10 one = [⟨line1.toArray⟩, ⟨line2.toArray⟩, a, b] := by
  unfold pieces
  rw [h1, cuts_line _ line1 _ (by decide), cuts_line _ line2 _ (by decide), cuts_line _ _ _ ha, cuts_last _ _ hb]
  simp

include hn
theorem stays_text_same (h1 : one.data.toList = line1 ++ 10 :: (line2 ++ 10 :: (a.data.toList ++ 10 :: b.data.toList))) (s1 : one.size ≤ 16384)
    (h2 : two.data.toList = (35 :: note.data.toList) ++ 10 :: (line1 ++ 10 :: (line2 ++ 10 :: (a.data.toList ++ 10 :: ([] ++ 10 :: (b.data.toList ++ 10 :: [])))))) (s2 : two.size ≤ 16384) :
    (parseV one).1 = (parseV two).1 ∧ (parseV one).2.2 = (parseV two).2.2 ∧ ((parseV one).2.1 + 1 = (parseV two).2.1 ∨ (parseV one).2.1 + 2 = (parseV two).2.1 ∨ ((parseV one).2.1 = 0 ∧ (parseV two).2.1 = 0)) := by
  have p1 := pieces_one a b one ha hb h1
  have p2 : pieces 10 two = [⟨(35 :: note.data.toList).toArray⟩, ⟨line1.toArray⟩, ⟨line2.toArray⟩, a, ⟨#[]⟩, b, ⟨#[]⟩] := by
    unfold pieces
    rw [h2, cuts_line _ (35 :: note.data.toList) _ (by simp only [List.mem_cons, not_or]; exact ⟨by decide, hn⟩), cuts_line _ line1 _ (by decide), cuts_line _ line2 _ (by decide), cuts_line _ _ _ ha, cuts_line _ [] _ (by decide), cuts_line _ _ _ hb]
    simp [cuts]
  unfold parseV
  rw [if_neg (by omega), if_neg (by omega), p1, p2]
  exact stays_same act finB none _ _ a b _ _ st0 (act_note note _ (by simp)) (act_empty _ rfl)

theorem stays_text_turned (h1 : one.data.toList = line1 ++ 10 :: (line2 ++ 10 :: (a.data.toList ++ 10 :: b.data.toList))) (s1 : one.size ≤ 16384)
    (h2 : two.data.toList = line1 ++ 10 :: (line2 ++ 10 :: (b.data.toList ++ 10 :: ((35 :: note.data.toList) ++ 10 :: ([] ++ 10 :: (a.data.toList ++ 10 :: [])))))) (s2 : two.size ≤ 16384) :
    ((parseV one).2.2 ≠ 0 ∧ (parseV two).2.2 ≠ 0) ∨ (wordL a = wordL b ∧ a.size ≠ 0 ∧ b.size ≠ 0) ∨ ((parseV one).1 = (parseV two).1 ∧ (parseV one).2.2 = (parseV two).2.2) := by
  have p1 := pieces_one a b one ha hb h1
  have p2 : pieces 10 two = [⟨line1.toArray⟩, ⟨line2.toArray⟩, b, ⟨(35 :: note.data.toList).toArray⟩, ⟨#[]⟩, a, ⟨#[]⟩] := by
    unfold pieces
    rw [h2, cuts_line _ line1 _ (by decide), cuts_line _ line2 _ (by decide), cuts_line _ _ _ hb, cuts_line _ (35 :: note.data.toList) _ (by simp only [List.mem_cons, not_or]; exact ⟨by decide, hn⟩), cuts_line _ [] _ (by decide), cuts_line _ _ _ ha]
    simp [cuts]
  unfold parseV
  rw [if_neg (by omega), if_neg (by omega), p1, p2]
  exact stays_turned act finB none (fun a b => wordL a = wordL b ∧ a.size ≠ 0 ∧ b.size ≠ 0) _ _ a b _ _ st0 (act_note note _ (by simp)) (act_empty _ rfl)
    (fun x e h => act_bad h) (fun x k f v e h he => by
      obtain ⟨_, _, rfl⟩ := act_at h
      exact NZ.step k _ v e he)
    (fun k f g h h' => act_words h h')
end
end Go.Proofs.YtjokcflpjpophaaGreatDoor
