/- Plain laws on hosts: the document's count of labels is the program's. No program in sight. -/
import Derived.Test.YtjokcflpjpophaaGreatDoorHost
namespace Go.Proofs.YtjokcflpjpophaaGreatDoor
open Go.RowKit

/-- May a byte stand within a label? -/
def letter (b : UInt8) : Bool := decide (97 ≤ b.toNat ∧ b.toNat ≤ 122) || decide (65 ≤ b.toNat ∧ b.toNat ≤ 90) || decide (48 ≤ b.toNat ∧ b.toNat ≤ 57) || decide (b.toNat = 45)
def okRef (l : List UInt8) : Bool := l.all letter && decide (1 ≤ l.length) && decide (l.length ≤ 63) && !(l.getD 0 0 == 45) && !(l.getD (l.length - 1) 0 == 45)
def refCount (l : List UInt8) : Nat := if 1 ≤ l.length ∧ l.length ≤ 253 ∧ (cuts 46 l).all okRef = true then (cuts 46 l).length else 0

theorem all_bytes (p : UInt8 → Bool) (h : ∀ n : Fin 256, p (UInt8.ofNat n.val) = true) (b : UInt8) : p b = true := by
  have := h ⟨b.toNat, b.toNat_lt⟩
  simpa using this
theorem low_in_set (b : UInt8) : labelSet.contains (low b) = letter b := by
  have := all_bytes (fun b => labelSet.contains (low b) == letter b) (by decide +kernel) b
  exact beq_iff_eq.1 this
theorem low_dot (b : UInt8) : (low b == 46) = (b == 46) := by
  have := all_bytes (fun b => (low b == 46) == (b == 46)) (by decide +kernel) b
  exact beq_iff_eq.1 this
theorem low_dash (b : UInt8) : (low b == 45) = (b == 45) := by
  have := all_bytes (fun b => (low b == 45) == (b == 45)) (by decide +kernel) b
  exact beq_iff_eq.1 this
theorem low_zero : low 0 = 0 := by decide +kernel

theorem dropWhile_nil (p : UInt8 → Bool) (l : List UInt8) : l.dropWhile p = [] ↔ l.all p = true := by
  induction l with
  | nil => simp
  | cons a l ih =>
    rw [List.dropWhile_cons]
    by_cases h : p a = true
    · rw [if_pos h, ih]; simp [h]
    · rw [if_neg h]; simp [h]
theorem dropWhile_all (p : UInt8 → Bool) (l : List UInt8) (h : (l.reverse.dropWhile p).reverse.all p = true) : l.all p = true := by
  have h1 : (l.reverse.dropWhile p).all p = true := by simpa using h
  rw [show l.all p = l.reverse.all p by simp]
  generalize l.reverse = m at h1
  induction m with
  | nil => rfl
  | cons a m ih =>
    rw [List.dropWhile_cons] at h1
    by_cases ha : p a = true
    · rw [if_pos ha] at h1; simp [ha]; simpa using ih h1
    · rw [if_neg ha] at h1; simp [ha] at h1
theorem trimS_nil (l cs : List UInt8) : (Lib.trimS l cs).isEmpty = l.all (cs.contains ·) := by
  rw [Bool.eq_iff_iff, List.isEmpty_iff]
  unfold Lib.trimS Lib.trimLeftS Lib.trimRightS
  rw [dropWhile_nil]
  constructor
  · exact dropWhile_all _ l
  · intro h
    have : l.reverse.dropWhile (cs.contains ·) = [] := (dropWhile_nil _ _).2 (by simpa using h)
    rw [this]; rfl

theorem getD_map_low (l : List UInt8) (i : Nat) : (l.map low).getD i 0 = low (l.getD i 0) := by
  rw [List.getD_eq_getElem?_getD, List.getD_eq_getElem?_getD, List.getElem?_map]
  cases l[i]? with
  | none => simp [low_zero]
  | some a => rfl
theorem okLabel_low (l : List UInt8) : okLabel (l.map low) = okRef l := by
  unfold okLabel okRef
  rw [trimS_nil, getD_map_low, List.length_map, getD_map_low, low_dash, low_dash, List.all_map]
  have h1 : (l.all ((fun x => labelSet.contains x) ∘ low)) = l.all letter := by
    apply congrArg (fun f => l.all f)
    funext b
    exact low_in_set b
  rw [h1]
  cases l with
  | nil => rfl
  | cons a l => simp [Bool.and_comm, Bool.and_left_comm]
theorem cuts_low (l : List UInt8) : cuts 46 (l.map low) = (cuts 46 l).map (·.map low) := by
  induction l with
  | nil => rfl
  | cons a l ih =>
    rw [List.map_cons]
    by_cases h : (a == 46) = true
    · rw [cuts_same (by rw [low_dot]; exact h), cuts_same h, ih]; rfl
    · cases hl : cuts 46 l with
      | nil => exact absurd hl (cuts_ne 46 l)
      | cons p ps =>
        rw [hl] at ih
        rw [cuts_other (by rw [low_dot]; exact h) ih, cuts_other h hl]
        rfl
theorem counted_eq (l : List UInt8) : counted l = refCount l := by
  have h1 : (cuts 46 (l.map low)).all okLabel = (cuts 46 l).all okRef := by
    rw [cuts_low, List.all_map]
    apply congrArg (fun f => (cuts 46 l).all f)
    funext p
    exact okLabel_low p
  have h2 : (cuts 46 (l.map low)).length = (cuts 46 l).length := by rw [cuts_low, List.length_map]
  unfold counted refCount
  rw [h1, h2]
  by_cases h0 : 1 ≤ l.length
  · by_cases h : (cuts 46 l).all okRef = true ∧ l.length ≤ 253
    · rw [if_pos h, if_pos ⟨h0, h.2, h.1⟩]
    · rw [if_neg h, if_neg (fun k => h ⟨k.2.2, k.2.1⟩)]
  · have : l = [] := by cases l with | nil => rfl | cons a l => simp at h0
    subst this
    rfl

/-- The loop of the document's count, between two rounds. -/
def LabInv (L : List UInt8) (n f i : Nat) : Prop :=
  (f ≤ i ∧ i ≤ L.length ∧ ∃ pre, pre.length = n ∧ pre.all okRef = true ∧ cuts 46 L = pre ++ cuts 46 (L.drop f) ∧ ∀ j, f ≤ j → j < i → letter (L.getD j 0) = true) ∨
  (i = L.length + 1 ∧ n = (cuts 46 L).length ∧ (cuts 46 L).all okRef = true)

theorem labInv_start (L : List UInt8) : LabInv L 0 0 0 := .inl ⟨Nat.le_refl _, Nat.zero_le _, [], rfl, rfl, by simp, fun j _ h => absurd h (Nat.not_lt_zero _)⟩
theorem letter_not_dot {b : UInt8} (h : letter b = true) : ¬ (b == 46) = true := by
  intro e
  have e' := beq_iff_eq.1 e
  subst e'
  revert h
  decide
theorem cuts_run (l : List UInt8) (k : Nat) (hk : k ≤ l.length) (h : ∀ j, j < k → ¬ (l.getD j 0 == 46) = true) : ∃ q qs, cuts 46 (l.drop k) = q :: qs ∧ cuts 46 l = (l.take k ++ q) :: qs := by
  induction k generalizing l with
  | zero =>
    cases hl : cuts 46 l with
    | nil => exact absurd hl (cuts_ne 46 l)
    | cons q qs => exact ⟨q, qs, by simpa using hl, by simp⟩
  | succ k ih =>
    cases l with
    | nil => simp at hk
    | cons a l =>
      obtain ⟨q, qs, h1, h2⟩ := ih l (by simpa using hk) (fun j hj => by have := h (j + 1) (by omega); simpa using this)
      refine ⟨q, qs, by simpa using h1, ?_⟩
      rw [cuts_other (by have := h 0 (by omega); simpa using this) h2]
      simp
/-- The label that ends at i: cut off. -/
theorem cuts_at (L : List UInt8) (f i : Nat) (hf : f ≤ i) (hi : i ≤ L.length) (hl : ∀ j, f ≤ j → j < i → letter (L.getD j 0) = true) :
    (i = L.length → cuts 46 (L.drop f) = [(L.drop f).take (i - f)]) ∧ (i < L.length → (L.getD i 0 == 46) = true → cuts 46 (L.drop f) = (L.drop f).take (i - f) :: cuts 46 (L.drop (i + 1))) ∧
    (i < L.length → ¬ (L.getD i 0 == 46) = true → letter (L.getD i 0) = false → (cuts 46 (L.drop f)).all okRef = false) := by
  have hd : ∀ j, (L.drop f).getD j 0 = L.getD (f + j) 0 := fun j => by simp [List.getD_eq_getElem?_getD, List.getElem?_drop]
  obtain ⟨q, qs, h1, h2⟩ := cuts_run (L.drop f) (i - f) (by simp; omega) (fun j hj => by rw [hd]; exact letter_not_dot (hl (f + j) (by omega) (by omega)))
  rw [List.drop_drop, show f + (i - f) = i by omega] at h1
  refine ⟨fun h => ?_, fun h hdot => ?_, fun h hnd hlet => ?_⟩
  · rw [h, List.drop_length] at h1
    simp [cuts] at h1
    rw [h2, h1.1, h1.2]; simp
  · have hc : L.drop i = L.getD i 0 :: L.drop (i + 1) := by
      rw [List.drop_eq_getElem_cons h, List.getD_eq_getElem?_getD, List.getElem?_eq_getElem h]; rfl
    rw [hc, cuts_same hdot] at h1
    simp at h1
    rw [h2, h1.1, h1.2]; simp
  · have hc : L.drop i = L.getD i 0 :: L.drop (i + 1) := by
      rw [List.drop_eq_getElem_cons h, List.getD_eq_getElem?_getD, List.getElem?_eq_getElem h]; rfl
    rw [hc] at h1
    cases hl2 : cuts 46 (L.drop (i + 1)) with
    | nil => exact absurd hl2 (cuts_ne 46 _)
    | cons p ps =>
      rw [cuts_other hnd hl2] at h1
      obtain ⟨rfl, rfl⟩ := List.cons.inj h1
      have ha : ((L.drop f).take (i - f) ++ L.getD i 0 :: p).all letter = false := by
        rw [List.all_append]
        simp only [List.all_cons, hlet, Bool.false_and, Bool.and_false]
      have ho : okRef ((L.drop f).take (i - f) ++ L.getD i 0 :: p) = false := by
        unfold okRef
        simp only [ha, Bool.false_and]
      rw [h2]
      simp only [List.all_cons, ho, Bool.false_and]

theorem labInv_letter {L : List UInt8} {n f i : Nat} (h : LabInv L n f i) (hi : i < L.length) (hl : letter (L.getD i 0) = true) : LabInv L n f (i + 1) := by
  rcases h with ⟨h1, h2, pre, p1, p2, p3, p4⟩ | ⟨h1, _⟩
  · refine .inl ⟨by omega, by omega, pre, p1, p2, p3, fun j hj hji => ?_⟩
    by_cases e : j = i
    · subst e; exact hl
    · exact p4 j hj (by omega)
  · omega
theorem labInv_bad {L : List UInt8} {n f i : Nat} (h : LabInv L n f i) (hi : i < L.length) (hd : ¬ (L.getD i 0 == 46) = true) (hl : letter (L.getD i 0) = false) : refCount L = 0 := by
  rcases h with ⟨h1, h2, pre, p1, p2, p3, p4⟩ | ⟨h1, _⟩
  · have := (cuts_at L f i h1 h2 p4).2.2 hi hd hl
    unfold refCount
    rw [if_neg]
    rintro ⟨_, _, k⟩
    rw [p3, List.all_append, this] at k
    simp at k
  · omega
/-- The tests at a label's end. -/
def endOk (L : List UInt8) (f i : Nat) : Bool := decide (1 ≤ i - f) && decide (i - f ≤ 63) && !(L.getD f 0 == 45) && !(L.getD (i - 1) 0 == 45)
theorem okRef_end {L : List UInt8} {f i : Nat} (hf : f ≤ i) (hi : i ≤ L.length) (hl : ∀ j, f ≤ j → j < i → letter (L.getD j 0) = true) : okRef ((L.drop f).take (i - f)) = endOk L f i := by
  have hlen : ((L.drop f).take (i - f)).length = i - f := by simp; omega
  unfold okRef endOk
  rw [hlen]
  by_cases h0 : 1 ≤ i - f
  · have e0 : ((L.drop f).take (i - f)).getD 0 0 = L.getD f 0 := by
      simp only [List.getD_eq_getElem?_getD, List.getElem?_take, List.getElem?_drop]
      rw [if_pos (by omega), Nat.add_zero]
    have e1 : ((L.drop f).take (i - f)).getD (i - f - 1) 0 = L.getD (i - 1) 0 := by
      simp only [List.getD_eq_getElem?_getD, List.getElem?_take, List.getElem?_drop]
      rw [if_pos (by omega), show f + (i - f - 1) = i - 1 by omega]
    rw [e0, e1]
    have ha : ((L.drop f).take (i - f)).all letter = true := by
      rw [List.all_eq_true]
      intro b hb
      obtain ⟨j, hj, rfl⟩ := List.getElem_of_mem hb
      have hj' : j < i - f := by rw [← hlen]; exact hj
      have := hl (f + j) (by omega) (by omega)
      rw [List.getD_eq_getElem?_getD, List.getElem?_eq_getElem (l := L) (i := f + j) (by omega)] at this
      simpa using this
    rw [ha]; simp
  · have : i - f = 0 := by omega
    simp [this]
theorem labInv_end {L : List UInt8} {n f i : Nat} (h : LabInv L n f i) (hi : i = L.length ∨ (i < L.length ∧ (L.getD i 0 == 46) = true)) (hok : endOk L f i = true) : LabInv L (n + 1) (i + 1) (i + 1) := by
  rcases h with ⟨h1, h2, pre, p1, p2, p3, p4⟩ | ⟨h1, _⟩
  · have ho := okRef_end h1 h2 p4
    rw [hok] at ho
    rcases hi with rfl | ⟨hlt, hdot⟩
    · have := (cuts_at L f _ h1 h2 p4).1 rfl
      refine .inr ⟨rfl, ?_, ?_⟩
      · rw [p3, this]; simp [p1]
      · rw [p3, this, List.all_append, p2]; simp [ho]
    · have := (cuts_at L f i h1 h2 p4).2.1 hlt hdot
      refine .inl ⟨Nat.le_refl _, by omega, pre ++ [(L.drop f).take (i - f)], by simp [p1], ?_, ?_, fun j a b => by omega⟩
      · rw [List.all_append, p2]; simp [ho]
      · rw [p3, this]; simp
  · omega
theorem labInv_endbad {L : List UInt8} {n f i : Nat} (h : LabInv L n f i) (hi : i = L.length ∨ (i < L.length ∧ (L.getD i 0 == 46) = true)) (hok : endOk L f i = false) : refCount L = 0 := by
  rcases h with ⟨h1, h2, pre, p1, p2, p3, p4⟩ | ⟨h1, _⟩
  · have ho := okRef_end h1 h2 p4
    rw [hok] at ho
    have hb : (cuts 46 (L.drop f)).all okRef = false := by
      rcases hi with rfl | ⟨hlt, hdot⟩
      · rw [(cuts_at L f _ h1 h2 p4).1 rfl]; simp [ho]
      · rw [(cuts_at L f i h1 h2 p4).2.1 hlt hdot]; simp [ho]
    unfold refCount
    rw [if_neg]
    rintro ⟨_, _, k⟩
    rw [p3, List.all_append, hb] at k
    simp at k
  · omega
theorem labInv_done {L : List UInt8} {n f : Nat} (h : LabInv L n f (L.length + 1)) (h1 : 1 ≤ L.length) (h2 : L.length ≤ 253) : n = refCount L := by
  rcases h with ⟨_, h2, _⟩ | ⟨_, h3, h4⟩
  · omega
  · unfold refCount
    rw [if_pos ⟨h1, h2, h4⟩, h3]
theorem labInv_le {L : List UInt8} {n f i : Nat} (h : LabInv L n f i) : i ≤ L.length + 1 := by
  rcases h with ⟨_, h2, _⟩ | ⟨h3, _⟩ <;> omega
theorem labInv_from {L : List UInt8} {n f i : Nat} (h : LabInv L n f i) (hi : i ≤ L.length) : f ≤ i := by
  rcases h with ⟨h1, _, _⟩ | ⟨h3, _⟩ <;> omega
theorem labInv_count {L : List UInt8} {n f i : Nat} (h : LabInv L n f i) : n ≤ L.length + 1 := by
  have hc := cuts_length 46 L
  rcases h with ⟨_, _, pre, p1, _, p3, _⟩ | ⟨_, h4, _⟩
  · rw [p3] at hc; simp at hc; omega
  · omega
end Go.Proofs.YtjokcflpjpophaaGreatDoor
