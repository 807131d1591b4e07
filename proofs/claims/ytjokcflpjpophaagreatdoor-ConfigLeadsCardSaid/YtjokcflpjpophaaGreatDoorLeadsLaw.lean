/- ConfigLeads, the plain law: routes 'y.' lead nowhere, of the six good ones the first is the best. No condition. -/
import Derived.Test.YtjokcflpjpophaaGreatDoorRoute
namespace Go.Proofs.YtjokcflpjpophaaGreatDoor
open Go.RowKit

/-- The hosts 'X.a.B', 'x.a.b', the pattern '*.a.b'. -/
def bigX : ByteArray := ⟨#[88, 46, 97, 46, 66]⟩
def smallX : ByteArray := ⟨#[120, 46, 97, 46, 98]⟩
def starX : ByteArray := ⟨#[42, 46, 97, 46, 98]⟩
def addY (h : ByteArray) : ByteArray := (⟨#[121, 46]⟩ : ByteArray) ++ h
theorem addY_list (h : ByteArray) : (addY h).data.toList = 121 :: 46 :: h.data.toList := by
  unfold addY
  simp [ByteArray.data_append]
theorem addY_size (h : ByteArray) : (addY h).size = h.size + 2 := by
  rw [Lib.size_eq, Lib.size_eq, addY_list]; simp
def yR (r : R3) : R3 := (addY r.1, r.2.1, 1)
/-- Host, protocol of the good route i. -/
def bh (i : Nat) : ByteArray := if i < 2 then smallX else if i < 4 then starX else ⟨#[]⟩
def bp (p : ByteArray) (i : Nat) : ByteArray := if i % 2 = 0 then p else ⟨#[]⟩
def bR (p : ByteArray) (i : Nat) : R3 := (bh i, bp p i, 10 + (i : Int))
/-- The good routes as they are appended: 5 first. -/
def goods (p : ByteArray) (c : Nat) : List R3 := (List.range c).map fun j => bR p (5 - j)

theorem rank_y (l p host proto : List UInt8) (hh : host = bigX.data.toList ∨ host = smallX.data.toList) : rank (121 :: 46 :: l) p host proto = 0 := by
  have hm : matchesP (121 :: 46 :: l) host = false := by
    have h1 : Lib.hasPrefix (121 :: 46 :: l) [42, 46] = false := by simp [Lib.hasPrefix, List.isPrefixOf]
    have h2 : ((121 :: 46 :: l).map low == host.map low) = false := by
      rcases hh with rfl | rfl
      · rw [show bigX.data.toList.map low = 120 :: (bigX.data.toList.map low).tail by decide +kernel, List.map_cons, show low 121 = 121 by decide +kernel]
        rw [beq_eq_false_iff_ne]
        intro h
        have := (List.cons.inj h).1
        exact absurd this (by decide)
      · rw [show smallX.data.toList.map low = 120 :: (smallX.data.toList.map low).tail by decide +kernel, List.map_cons, show low 121 = 121 by decide +kernel]
        rw [beq_eq_false_iff_ne]
        intro h
        have := (List.cons.inj h).1
        exact absurd this (by decide)
    unfold matchesP
    rw [h1, h2]
    simp
  unfold rank
  rw [hm]
  simp

theorem rank_best (p : ByteArray) (hp : p.data.toList ≠ []) (i : Nat) (hi : i < 6) : rankOf (bR p i) bigX.data.toList p.data.toList = i + 1 := by
  have hpe : p.data.toList.isEmpty = false := by simpa using hp
  have m1 : matchesP smallX.data.toList bigX.data.toList = true := by decide +kernel
  have m2 : matchesP starX.data.toList bigX.data.toList = true := by decide +kernel
  have c1 : decide (0 < refCount smallX.data.toList) = true := by decide +kernel
  have c2 : decide (0 < refCount starX.data.toList) = false := by decide +kernel
  have e1 : smallX.data.toList.isEmpty = false := by decide
  have e2 : starX.data.toList.isEmpty = false := by decide
  match i, hi with
  | 0, _ => simp [rankOf, bR, bh, bp, rank, m1, c1, e1, hpe]
  | 1, _ => simp [rankOf, bR, bh, bp, rank, m1, c1, e1]
  | 2, _ => simp [rankOf, bR, bh, bp, rank, m2, c2, e2, hpe]
  | 3, _ => simp [rankOf, bR, bh, bp, rank, m2, c2, e2]
  | 4, _ => simp [rankOf, bR, bh, bp, rank, hpe]
  | 5, _ => simp [rankOf, bR, bh, bp, rank]

theorem best_ys (rs : List R3) (host proto : List UInt8) (hh : host = bigX.data.toList ∨ host = smallX.data.toList) (x : Int × Int) : (rs.map yR).foldl (stepOf host proto) x = x := by
  induction rs generalizing x with
  | nil => rfl
  | cons r rs ih =>
    rw [List.map_cons, List.foldl_cons]
    have : stepOf host proto x (yR r) = x := by
      unfold stepOf
      rw [if_pos]
      show rank (addY r.1).data.toList r.2.1.data.toList host proto = 0
      rw [addY_list]
      exact rank_y _ _ _ _ hh
    rw [this]
    exact ih x

theorem best_goods (p : ByteArray) (hp : p.data.toList ≠ []) : ∀ (c : Nat), c ≤ 6 → (goods p c).foldl (stepOf bigX.data.toList p.data.toList) (7, -1) = (7 - (c : Int), if c = 0 then -1 else 16 - (c : Int))
  | 0, _ => rfl
  | c + 1, h => by
    unfold goods
    rw [List.range_succ, List.map_append, List.foldl_append]
    have ih := best_goods p hp c (by omega)
    unfold goods at ih
    rw [ih]
    show stepOf _ _ _ (bR p (5 - c)) = _
    unfold stepOf
    rw [rank_best p hp (5 - c) (by omega), if_neg (by omega), if_pos (by dsimp only; omega)]
    show ((((5 - c + 1 : Nat)) : Int), 10 + ((5 - c : Nat) : Int)) = _
    rw [if_neg (by omega)]
    refine Prod.ext ?_ ?_ <;> dsimp only <;> omega

theorem leads (p : ByteArray) (hp : p.data.toList ≠ []) (rs : List R3) (k : Nat) (hk : k < 6) : (bestOf (rs.map yR ++ goods p (6 - k)) bigX.data.toList p.data.toList).2 = 10 + (k : Int) := by
  unfold bestOf
  rw [List.foldl_append, best_ys _ _ _ (.inl rfl), best_goods p hp (6 - k) (by omega), if_neg (by omega)]
  dsimp only
  omega
theorem leads_not (p : ByteArray) (rs : List R3) : (bestOf (rs.map yR) smallX.data.toList p.data.toList).2 = -1 := by
  unfold bestOf
  rw [best_ys _ _ _ (.inr rfl)]
end Go.Proofs.YtjokcflpjpophaaGreatDoor
