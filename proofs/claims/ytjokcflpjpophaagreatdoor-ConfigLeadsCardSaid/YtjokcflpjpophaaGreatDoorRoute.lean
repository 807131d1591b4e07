/- config.Route and the document's Route: what each returns, for whatever routes lie in memory. -/
import Derived.Test.YtjokcflpjpophaaGreatDoorMatch2
import Derived.Deep.Light
namespace Go.Proofs.YtjokcflpjpophaaGreatDoor
open Go.RowKit

/-- How good a route is; 0: it leads nowhere. -/
def rank (h p host proto : List UInt8) : Nat :=
  let k := if h.isEmpty = true then 5 else if matchesP h host = true then (if decide (0 < refCount h) = true then 1 else 3) else 0
  if k = 0 then 0 else if p.isEmpty = true then k + 1 else if (p == proto) = true then k else 0

def rankB (he M K pe pp : Bool) : Nat :=
  let k := if he = true then 5 else if M = true then (if K = true then 1 else 3) else 0
  if k = 0 then 0 else if pe = true then k + 1 else if pp = true then k else 0

set_option maxRecDepth 100000 in
set_option maxHeartbeats 4000000 in
theorem kind_calls (h p host proto : ByteArray) (b : Int) (hh : h.size ≤ 140737488351240) (hho : host.size ≤ 140737488351240) (w : World) :
    Calls Tryz.prog 23 #[.agg #[.string h, .string p, .int .i64 b], .string host, .string proto] w fun e w' =>
      e = .returned (.int .i64 (rank h.data.toList p.data.toList host.data.toList proto.data.toList)) ∧ Below w.heap.size w w' := by
  obtain ⟨M, hM⟩ : ∃ M, matchesP h.data.toList host.data.toList = M := ⟨_, rfl⟩
  obtain ⟨K, hK⟩ : ∃ K, decide (0 < refCount h.data.toList) = K := ⟨_, rfl⟩
  have HC : Hid (∀ w, Calls Tryz.prog 54 #[.string h, .string host] w fun e w' => e = .returned (.bool M) ∧ Below w.heap.size w w') := by
    intro w
    have := rMatches_calls h host hh hho w
    rwa [refMatches_eq, hM] at this
  have HH : Hid (∀ w, Calls Tryz.prog 55 #[.string h] w fun e w' => e = .returned (.bool K) ∧ w = w') := by
    intro w
    have := rHost_calls h hh w
    rwa [hK] at this
  have HR : Hid (rank h.data.toList p.data.toList host.data.toList proto.data.toList = rankB h.toList.isEmpty M K p.toList.isEmpty (p.toList == proto.toList)) := by
    refine Lib.hid ?_
    unfold rank
    rw [hM, hK, ← toList_data h, ← toList_data p, ← toList_data proto]
    rfl
  clear hM hK
  go_enter Tryz.func23, Tryz.ntmps23
  go_wp2_with (first | (go_at_call 54; refine (HC.out _).mono ?_; rintro e w1 ⟨rfl, B1⟩; have r0 := ((Blk.new w #[.string h, .string p, .int .i64 b] 52).below B1 (by simp)).cell 0; have r1 := ((Blk.new w #[.string h, .string p, .int .i64 b] 52).below B1 (by simp)).cell 1) | (go_at_call 55; refine (HH.out _).mono ?_; rintro e w2 ⟨rfl, rfl⟩))
  all_goals go_ret
  all_goals refine ⟨?_, ((Below.refl _ w).alloc (Nat.le_refl _) _).trans (Below.mono (by assumption) (by simp))⟩
  all_goals rw [HR.out]
  all_goals (cases M <;> cases K <;> first | contradiction | (simp only [*]; rfl))

/-- A route as it lies in memory: its host, its protocol, its backend. -/
abbrev R3 := ByteArray × ByteArray × Int
def rankOf (r : R3) (host proto : List UInt8) : Nat := rank r.1.data.toList r.2.1.data.toList host proto
def stepOf (host proto : List UInt8) (x : Int × Int) (r : R3) : Int × Int := if rankOf r host proto = 0 then x else if ((rankOf r host proto : Nat) : Int) < x.1 then (((rankOf r host proto : Nat) : Int), r.2.2) else x
def bestOf (rs : List R3) (host proto : List UInt8) : Int × Int := rs.foldl (stepOf host proto) (7, -1)
theorem bestOf_snoc (rs : List R3) (k : Nat) (hk : k < rs.length) (host proto : List UInt8) : bestOf (rs.take (k + 1)) host proto = stepOf host proto (bestOf (rs.take k) host proto) rs[k] := by
  unfold bestOf
  rw [List.take_succ_eq_append_getElem hk, List.foldl_append]
  rfl
/-- One route's step, by its tests. -/
def stepB (he M K pe pp : Bool) (b : Int) (x : Int × Int) : Int × Int := if rankB he M K pe pp = 0 then x else if ((rankB he M K pe pp : Nat) : Int) < x.1 then (((rankB he M K pe pp : Nat) : Int), b) else x
theorem stepOf_eq (r : R3) (host proto : ByteArray) (x : Int × Int) : stepOf host.data.toList proto.data.toList x r = stepB r.1.toList.isEmpty (matchesP r.1.data.toList host.data.toList) (decide (0 < counted r.1.data.toList)) r.2.1.toList.isEmpty (r.2.1.toList == proto.toList) r.2.2 x := by
  unfold stepOf stepB rankOf rank
  rw [counted_eq, toList_data, toList_data, toList_data]
  rfl

/-- The routes lie in the row rb from place off on. -/
def RoutesAt (w : World) (rb off : Nat) (rs : List R3) : Prop := ∀ (i : Nat) (hi : i < rs.length),
  w.cell? ⟨rb, off + i * 3, none⟩ = some (.string rs[i].1) ∧ w.cell? ⟨rb, off + i * 3 + 1, none⟩ = some (.string rs[i].2.1) ∧ w.cell? ⟨rb, off + i * 3 + 2, none⟩ = some (.int .i64 rs[i].2.2)
theorem RoutesAt.below {w w' : World} {B rb off : Nat} {rs : List R3} (h : RoutesAt w rb off rs) (hb : Below B w w') (hr : rb < B) : RoutesAt w' rb off rs := fun i hi =>
  ⟨(hb.cell (p := ⟨rb, _, none⟩) hr).trans (h i hi).1, (hb.cell (p := ⟨rb, _, none⟩) hr).trans (h i hi).2.1, (hb.cell (p := ⟨rb, _, none⟩) hr).trans (h i hi).2.2⟩

set_option maxRecDepth 100000 in
set_option maxHeartbeats 8000000 in
theorem Route_calls (C : Array Value) (rb off cap : Nat) (rs : List R3) (host proto : ByteArray) (hC : C[27]? = some (.slice (some ⟨rb, off, none⟩) rs.length cap)) (w : World) (hrb : rb < w.heap.size) (hR : RoutesAt w rb off rs)
    (hrs : rs.length ≤ 140737488351240) (hsz : ∀ (i : Nat) (hi : i < rs.length), rs[i].1.size ≤ 140737488351240) (hho : host.size ≤ 140737488351240) :
    Calls Tryz.prog 11 #[.agg C, .string host, .string proto] w fun e w' => e = .returned (.int .i64 (bestOf rs host.data.toList proto.data.toList).2) ∧ Below w.heap.size w w' := by
  have HR := Lib.hid hR
  have HS := Lib.hid hsz
  clear hR hsz
  go_enter Tryz.func11, Tryz.ntmps11
  go_wp2_with fail
  go_loopw [7, 8, 15] (fun u v i wr => ∃ (k : Nat) (X : Int × Int), k ≤ rs.length ∧ u = .int .i64 X.1 ∧ v = .int .i64 X.2 ∧ i = .int .i64 k ∧ Hid (bestOf (rs.take k) host.data.toList proto.data.toList = X) ∧ Below w.heap.size w wr) (fun _ _ i _ => rs.length - (intOf i).toNat)
  case atStart => exact ⟨0, (7, -1), Nat.zero_le _, rfl, rfl, rfl, rfl, (Below.refl _ w).alloc (Nat.le_refl _) _⟩
  case round =>
    obtain ⟨k, ⟨x1, x2⟩, hk, rfl, rfl, rfl, HF, hB⟩ := hrel
    by_cases hlt : k < rs.length
    · have hsn := bestOf_snoc rs k hlt host.data.toList proto.data.toList
      rw [HF.out, stepOf_eq] at hsn
      have hc := (HR.out.below hB hrb) k hlt
      have hs1 := HS.out k hlt
      obtain ⟨⟨h, p, b⟩, hr⟩ : ∃ r, rs[k] = r := ⟨_, rfl⟩
      rw [hr] at hsn hc hs1
      dsimp only at hsn hc hs1
      obtain ⟨M, hM⟩ : ∃ M, matchesP h.data.toList host.data.toList = M := ⟨_, rfl⟩
      obtain ⟨K, hK⟩ : ∃ K, decide (0 < counted h.data.toList) = K := ⟨_, rfl⟩
      have HM : Hid (∀ w, Calls Tryz.prog 21 #[.string h, .string host] w fun e w' => e = .returned (.bool M) ∧ Below w.heap.size w w') := by
        intro w
        have := Matches_calls h host hs1 hho w
        rwa [hM] at this
      have HH : Hid (∀ w, Calls Tryz.prog 22 #[.string h] w fun e w' => e = .returned (.bool K) ∧ Below w.heap.size w w') := by
        intro w
        have := Host_calls h hs1 w
        rwa [hK] at this
      rw [hM, hK] at hsn
      obtain ⟨he, hhe⟩ : ∃ he, h.toList.isEmpty = he := ⟨_, rfl⟩
      obtain ⟨pe, hpe⟩ : ∃ pe, p.toList.isEmpty = pe := ⟨_, rfl⟩
      obtain ⟨pp, hpp⟩ : ∃ pp, (p.toList == proto.toList) = pp := ⟨_, rfl⟩
      rw [hhe, hpe, hpp] at hsn
      have HN := Lib.hid hsn
      have c0 := hc.1
      have c1 := hc.2.1
      have c2 := hc.2.2
      clear hr hM hK hsn hc
      have hBa := hB.alloc hB.size (.cells #[.string h, .string p, .int .i64 b] 52)
      have hwz := hB.size
      go_wp2_with (first
        | (go_at_call 21; refine (HM.out _).mono ?_; rintro e w1 ⟨rfl, B1⟩; have q1 := ((Blk.new wr #[.string h, .string p, .int .i64 b] 52).below B1 (by simp)); have q1a := q1.cell 0; have q1b := q1.cell 1; have q1c := q1.cell 2; have B1' := hBa.trans (B1.mono (by simp; omega)); have hz1 := B1'.size)
        | (go_at_call 22; refine (HH.out _).mono ?_; rintro e w2 ⟨rfl, B2⟩; have q2 := q1.below B2 q1.lt; have q2a := q2.cell 0; have q2b := q2.cell 1; have q2c := q2.cell 2; have B2' := B1'.trans (B2.mono B1'.size)))
      all_goals (try (go_region; go_wp2))
      all_goals go_roundw
      all_goals first
        | (simp [intOf]; omega)
        | refine ⟨k + 1, _, by omega, ?_, ?_, by go_num, HN.out, by first | assumption | exact Below.drew (by assumption)⟩
      all_goals go_light
      all_goals clear HM HH HN HF HR HS
      all_goals (cases he <;> first | contradiction | skip)
      all_goals (cases M <;> first | contradiction | skip)
      all_goals (cases K <;> first | contradiction | skip)
      all_goals (cases pe <;> first | contradiction | skip)
      all_goals (cases pp <;> first | contradiction | skip)
      all_goals first
        | rfl
        | (simp only [stepB, rankB]; simp; done)
        | (simp only [stepB, rankB]; simp; rw [if_pos (by omega)]; done)
        | (simp only [stepB, rankB]; simp; rw [if_neg (by omega)]; done)
    · have hkl : k = rs.length := by omega
      have HF2 : Hid (bestOf rs host.data.toList proto.data.toList = (x1, x2)) := by
        have := HF.out
        rw [hkl, List.take_length] at this
        exact this
      clear hkl
      go_wp2
      go_ret
      exact ⟨by rw [HF2.out]; rfl, hB⟩
end Go.Proofs.YtjokcflpjpophaaGreatDoor
