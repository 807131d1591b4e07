/- The plain law of ConfigStays: lines read one behind the other, each of which says something of one kind alone. No program in sight; no condition but the ones each theorem names. -/
import Derived.WalkKit
namespace Go.Proofs.YtjokcflpjpophaaGreatDoor

/-- What a line does: nothing, it is refused, or it turns what is kept of one kind. -/
inductive LineAct (S : Type) where
  | idle : LineAct S
  | bad (e : Int) : LineAct S
  | on (k : Nat) (f : S → Except Int S) : LineAct S

/-- A line, done. -/
def LineAct.run {S : Type} (x : LineAct S) (st : Nat → S) : Except Int (Nat → S) :=
  match x with
  | .idle => .ok st
  | .bad e => .error e
  | .on k f => match f (st k) with
    | .ok v => .ok fun j => if j = k then v else st j
    | .error e => .error e

/-- Lines, one behind the other; where one is refused, its number and why. -/
def runL {L S : Type} (act : L → LineAct S) : List L → Int → (Nat → S) → Except (Int × Int) (Nat → S)
  | [], _, st => .ok st
  | s :: r, n, st => match (act s).run st with
    | .ok st' => runL act r (n + 1) st'
    | .error e => .error (n + 1, e)

/-- What is handed back. -/
def ends {S C : Type} (fin : (Nat → S) → C × Int) (z : C) (r : Except (Int × Int) (Nat → S)) : C × Int × Int :=
  match r with
  | .ok st => ((fin st).1, 0, (fin st).2)
  | .error (n, e) => (z, n, e)

theorem runL_append {L S : Type} (act : L → LineAct S) : ∀ (l r : List L) (n : Int) (st : Nat → S),
    runL act (l ++ r) n st = match runL act l n st with
      | .ok st' => runL act r (n + l.length) st'
      | .error x => .error x
  | [], r, n, st => by simp [runL]
  | s :: l, r, n, st => by
    simp only [List.cons_append, runL]
    cases h : (act s).run st with
    | error e => rfl
    | ok st' =>
      simp only []
      rw [runL_append act l r (n + 1) st']
      simp only [List.length_cons, Int.natCast_add, Int.natCast_one]
      rw [show n + 1 + (l.length : Int) = n + ((l.length : Int) + 1) by omega]

theorem runL_shift {L S : Type} (act : L → LineAct S) : ∀ (l : List L) (n d : Int) (st : Nat → S),
    runL act l (n + d) st = match runL act l n st with
      | .ok st' => .ok st'
      | .error (m, e) => .error (m + d, e)
  | [], n, d, st => rfl
  | s :: l, n, d, st => by
    simp only [runL]
    cases h : (act s).run st with
    | error e => simp only []; rw [show n + d + 1 = n + 1 + d by omega]
    | ok st' =>
      simp only []
      rw [show n + d + 1 = (n + 1) + d by omega]
      exact runL_shift act l (n + 1) d st'

section
variable {L S C : Type} (act : L → LineAct S) (fin : (Nat → S) → C × Int) (z : C)

theorem stays_same (l1 l2 a b h e0 : L) (st : Nat → S) (hh : act h = .idle) (he : act e0 = .idle) :
    (ends fin z (runL act [l1, l2, a, b] 0 st)).1 = (ends fin z (runL act [h, l1, l2, a, e0, b, e0] 0 st)).1 ∧
    (ends fin z (runL act [l1, l2, a, b] 0 st)).2.2 = (ends fin z (runL act [h, l1, l2, a, e0, b, e0] 0 st)).2.2 ∧
    ((ends fin z (runL act [l1, l2, a, b] 0 st)).2.1 + 1 = (ends fin z (runL act [h, l1, l2, a, e0, b, e0] 0 st)).2.1 ∨
      (ends fin z (runL act [l1, l2, a, b] 0 st)).2.1 + 2 = (ends fin z (runL act [h, l1, l2, a, e0, b, e0] 0 st)).2.1 ∨
      ((ends fin z (runL act [l1, l2, a, b] 0 st)).2.1 = 0 ∧ (ends fin z (runL act [h, l1, l2, a, e0, b, e0] 0 st)).2.1 = 0)) := by
  have hi : ∀ s : Nat → S, (act h).run s = .ok s := fun s => by rw [hh]; rfl
  have h0 : ∀ s : Nat → S, (act e0).run s = .ok s := fun s => by rw [he]; rfl
  simp only [runL, hi, h0]
  cases (act l1).run st with
  | error e => simp [ends]
  | ok s1 =>
    simp only []
    cases (act l2).run s1 with
    | error e => simp [ends]
    | ok s2 =>
      simp only []
      cases (act a).run s2 with
      | error e => simp [ends]
      | ok s3 =>
        simp only []
        cases (act b).run s3 with
        | error e => simp [ends]
        | ok s4 => simp [ends]

theorem stays_turned (W : L → L → Prop) (l1 l2 a b h e0 : L) (st : Nat → S) (hh : act h = .idle) (he : act e0 = .idle)
    (hbad : ∀ x e, act x = .bad e → e ≠ 0) (hat : ∀ x k f v e, act x = .on k f → f v = .error e → e ≠ 0)
    (hW : ∀ k f g, act a = .on k f → act b = .on k g → W a b) :
    ((ends fin z (runL act [l1, l2, a, b] 0 st)).2.2 ≠ 0 ∧ (ends fin z (runL act [l1, l2, b, h, e0, a, e0] 0 st)).2.2 ≠ 0) ∨ W a b ∨
    ((ends fin z (runL act [l1, l2, a, b] 0 st)).1 = (ends fin z (runL act [l1, l2, b, h, e0, a, e0] 0 st)).1 ∧
      (ends fin z (runL act [l1, l2, a, b] 0 st)).2.2 = (ends fin z (runL act [l1, l2, b, h, e0, a, e0] 0 st)).2.2) := by
  have hi : ∀ s : Nat → S, (act h).run s = .ok s := fun s => by rw [hh]; rfl
  have h0 : ∀ s : Nat → S, (act e0).run s = .ok s := fun s => by rw [he]; rfl
  have hne : ∀ x (s : Nat → S) e, (act x).run s = .error e → e ≠ 0 := by
    intro x s e hx
    cases hc : act x with
    | idle => rw [hc] at hx; cases hx
    | bad e' => rw [hc] at hx; cases hx; exact hbad x e hc
    | on k f =>
      rw [hc] at hx
      unfold LineAct.run at hx
      simp only [] at hx
      cases hf : f (s k) with
      | ok v => rw [hf] at hx; cases hx
      | error e' => rw [hf] at hx; cases hx; exact hat x k f _ e hc hf
  simp only [runL, hi, h0]
  cases (act l1).run st with
  | error e => right; right; simp [ends]
  | ok s1 =>
    simp only []
    cases (act l2).run s1 with
    | error e => right; right; simp [ends]
    | ok s2 =>
      simp only []
      have key : W a b ∨ ((∃ e, (match (act a).run s2 with | .ok s => (act b).run s | .error e => .error e) = .error e) ∧ (∃ e, (match (act b).run s2 with | .ok s => (act a).run s | .error e => .error e) = .error e)) ∨
          (match (act a).run s2 with | .ok s => (act b).run s | .error e => .error e) = (match (act b).run s2 with | .ok s => (act a).run s | .error e => .error e) := by
        cases ha : act a with
        | idle =>
          right; right
          show (act b).run s2 = _
          cases (act b).run s2 <;> rfl
        | bad e =>
          right; left
          refine ⟨⟨e, rfl⟩, ?_⟩
          cases hb : (act b).run s2 with
          | error e' => exact ⟨e', rfl⟩
          | ok s => exact ⟨e, rfl⟩
        | on k f =>
          cases hb : act b with
          | idle =>
            right; right
            show (match (LineAct.on k f).run s2 with | .ok s => .ok s | .error e => .error e) = (LineAct.on k f).run s2
            cases (LineAct.on k f).run s2 <;> rfl
          | bad e =>
            right; left
            refine ⟨?_, ⟨e, rfl⟩⟩
            cases (LineAct.on k f).run s2 with
            | error e' => exact ⟨e', rfl⟩
            | ok s => exact ⟨e, rfl⟩
          | on j g =>
            by_cases hkj : k = j
            · subst hkj; exact .inl (hW k f g ha hb)
            · right
              have hjk : ¬ j = k := fun e => hkj e.symm
              cases hf : f (s2 k) with
              | error e =>
                left
                cases hg : g (s2 j) with
                | error e' => exact ⟨⟨e, by simp [LineAct.run, hf]⟩, ⟨e', by simp [LineAct.run, hg]⟩⟩
                | ok v => exact ⟨⟨e, by simp [LineAct.run, hf]⟩, ⟨e, by simp [LineAct.run, hg, hkj, hf]⟩⟩
              | ok u =>
                cases hg : g (s2 j) with
                | error e' => left; exact ⟨⟨e', by simp [LineAct.run, hf, hjk, hg]⟩, ⟨e', by simp [LineAct.run, hg]⟩⟩
                | ok v =>
                  right
                  simp only [LineAct.run, hf, hg, if_neg hkj, if_neg hjk]
                  congr 1
                  funext i
                  by_cases h1 : i = j
                  · subst h1; simp [hjk]
                  · by_cases h2 : i = k
                    · subst h2; simp [h1]
                    · simp [h1, h2]
      cases ha : (act a).run s2 with
      | error e =>
        cases hb : (act b).run s2 with
        | error e' => left; simp only [ends]; exact ⟨hne a _ _ ha, hne b _ _ hb⟩
        | ok s =>
          simp only [ha, hb] at key
          simp only []
          cases hc : (act a).run s with
          | error e' => left; simp only [ends]; exact ⟨hne a _ _ ha, hne a _ _ hc⟩
          | ok s' =>
            rw [hc] at key
            rcases key with h | ⟨_, e', h⟩ | h
            · exact .inr (.inl h)
            · cases h
            · cases h
      | ok s =>
        simp only []
        cases hc : (act b).run s with
        | error e =>
          cases hb : (act b).run s2 with
          | error e' => left; simp only [ends]; exact ⟨hne b _ _ hc, hne b _ _ hb⟩
          | ok t =>
            simp only [ha, hb, hc] at key
            simp only []
            cases hd : (act a).run t with
            | error e' => left; simp only [ends]; exact ⟨hne b _ _ hc, hne a _ _ hd⟩
            | ok t' =>
              rw [hd] at key
              rcases key with h | ⟨_, e', h⟩ | h
              · exact .inr (.inl h)
              · cases h
              · cases h
        | ok s' =>
          cases hb : (act b).run s2 with
          | error e' =>
            simp only [ha, hb, hc] at key
            rcases key with h | ⟨⟨e'', h⟩, _⟩ | h
            · exact .inr (.inl h)
            · cases h
            · cases h
          | ok t =>
            simp only [ha, hb, hc] at key
            simp only []
            cases hd : (act a).run t with
            | error e' =>
              rw [hd] at key
              rcases key with h | ⟨⟨e'', h⟩, _⟩ | h
              · exact .inr (.inl h)
              · cases h
              · cases h
            | ok t' =>
              rw [hd] at key
              rcases key with h | ⟨⟨e'', h⟩, _⟩ | h
              · exact .inr (.inl h)
              · cases h
              · cases h
                right; right; simp [ends]
end
end Go.Proofs.YtjokcflpjpophaaGreatDoor
