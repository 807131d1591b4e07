/- The document's Route (drawbridgeref22): what it returns is what config.Route returns, for whatever routes lie in memory. -/
import Derived.Test.YtjokcflpjpophaaGreatDoorRoute
namespace Go.Proofs.YtjokcflpjpophaaGreatDoor
open Go.RowKit

theorem rankOf_le (r : R3) (host proto : List UInt8) : rankOf r host proto ≤ 6 := by
  unfold rankOf rank
  dsimp only
  split <;> split <;> (try split) <;> (try split) <;> (try split) <;> (try split) <;> omega

/-- What the search for the best route comes to. -/
theorem bestOf_take (rs : List R3) (host proto : List UInt8) (k : Nat) (hk : k ≤ rs.length) :
    (bestOf (rs.take k) host proto = (7, -1) ∧ ∀ (i : Nat) (hi : i < rs.length), i < k → rankOf rs[i] host proto = 0) ∨
    ∃ (j : Nat) (hj : j < rs.length), j < k ∧ rankOf rs[j] host proto ≠ 0 ∧ bestOf (rs.take k) host proto = (((rankOf rs[j] host proto : Nat) : Int), rs[j].2.2) ∧
      (∀ (i : Nat) (hi : i < rs.length), i < k → rankOf rs[i] host proto = 0 ∨ rankOf rs[j] host proto ≤ rankOf rs[i] host proto) ∧ (∀ (i : Nat) (hi : i < rs.length), i < j → rankOf rs[i] host proto ≠ rankOf rs[j] host proto) := by
  induction k with
  | zero => exact .inl ⟨by simp [bestOf], fun i hi h => by omega⟩
  | succ k ih =>
    have hlt : k < rs.length := hk
    have hle := rankOf_le rs[k] host proto
    rw [bestOf_snoc rs k hlt]
    rcases ih (by omega) with ⟨h1, h2⟩ | ⟨j, hj, hjk, h0, h1, h2, h3⟩
    · rw [h1]
      by_cases hz : rankOf rs[k] host proto = 0
      · left
        refine ⟨by unfold stepOf; rw [if_pos hz], fun i hi h => ?_⟩
        by_cases e : i = k
        · subst e; exact hz
        · exact h2 i hi (by omega)
      · right
        refine ⟨k, hlt, by omega, hz, ?_, fun i hi h => ?_, fun i hi h => ?_⟩
        · unfold stepOf; rw [if_neg hz, if_pos (by show _ < (7 : Int); omega)]
        · by_cases e : i = k
          · subst e; right; omega
          · left; exact h2 i hi (by omega)
        · rw [h2 i hi (by omega)]; omega
    · rw [h1]
      right
      by_cases hz : rankOf rs[k] host proto = 0
      · refine ⟨j, hj, by omega, h0, by unfold stepOf; rw [if_pos hz], fun i hi h => ?_, h3⟩
        by_cases e : i = k
        · subst e; left; exact hz
        · exact h2 i hi (by omega)
      · by_cases hl : rankOf rs[k] host proto < rankOf rs[j] host proto
        · refine ⟨k, hlt, by omega, hz, ?_, fun i hi h => ?_, fun i hi h => ?_⟩
          · unfold stepOf; rw [if_neg hz, if_pos (by show _ < ((rankOf rs[j] host proto : Nat) : Int); omega)]
          · by_cases e : i = k
            · subst e; right; omega
            · rcases h2 i hi (by omega) with h | h
              · left; exact h
              · right; omega
          · rcases h2 i hi (by omega) with h | h <;> omega
        · refine ⟨j, hj, by omega, h0, by unfold stepOf; rw [if_neg hz, if_neg (by show ¬ _ < ((rankOf rs[j] host proto : Nat) : Int); omega)], fun i hi h => ?_, h3⟩
          by_cases e : i = k
          · subst e; right; omega
          · exact h2 i hi (by omega)

/-- No route has a rank from 1 to below v; none of the first i has the rank v. -/
def NoneYet (rs : List R3) (host proto : List UInt8) (v i : Nat) : Prop := ∀ (j : Nat) (hj : j < rs.length), (1 ≤ rankOf rs[j] host proto → v ≤ rankOf rs[j] host proto) ∧ (j < i → rankOf rs[j] host proto ≠ v)
theorem noneYet_start (rs : List R3) (host proto : List UInt8) : NoneYet rs host proto 1 0 := fun j hj => ⟨fun h => h, fun h => by omega⟩
theorem noneYet_next {rs : List R3} {host proto : List UInt8} {v i : Nat} (h : NoneYet rs host proto v i) (hi : i < rs.length) (hne : rankOf rs[i] host proto ≠ v) : NoneYet rs host proto v (i + 1) := fun j hj =>
  ⟨(h j hj).1, fun hl => by
    by_cases e : j = i
    · subst e; exact hne
    · exact (h j hj).2 (by omega)⟩
theorem noneYet_up {rs : List R3} {host proto : List UInt8} {v i : Nat} (h : NoneYet rs host proto v i) (hi : rs.length ≤ i) : NoneYet rs host proto (v + 1) 0 := fun j hj =>
  ⟨fun h1 => by have := (h j hj).1 h1; have := (h j hj).2 (by omega); omega, fun hl => by omega⟩
theorem noneYet_found {rs : List R3} {host proto : List UInt8} {v i : Nat} (h : NoneYet rs host proto v i) (h1 : 1 ≤ v) (hi : i < rs.length) (he : rankOf rs[i] host proto = v) : (bestOf rs host proto).2 = rs[i].2.2 := by
  have hb := bestOf_take rs host proto rs.length (Nat.le_refl _)
  rw [List.take_length] at hb
  rcases hb with ⟨_, h2⟩ | ⟨j, hj, _, h0, hb, h2, h3⟩
  · have := h2 i hi hi; omega
  · have a1 := (h j hj).1 (by omega)
    have a2 := h2 i hi hi
    have e : rankOf rs[j] host proto = v := by omega
    have hij : i = j := by
      rcases Nat.lt_trichotomy i j with hl | hl | hl
      · have := h3 i hi hl; omega
      · exact hl
      · have := (h j hj).2 hl; omega
    subst hij
    rw [hb]
theorem noneYet_end {rs : List R3} {host proto : List UInt8} {i : Nat} (h : NoneYet rs host proto 7 i) : (bestOf rs host proto).2 = -1 := by
  have hb := bestOf_take rs host proto rs.length (Nat.le_refl _)
  rw [List.take_length] at hb
  rcases hb with ⟨hb, _⟩ | ⟨j, hj, _, h0, _, _, _⟩
  · rw [hb]
  · have := (h j hj).1 (by omega)
    have := rankOf_le rs[j] host proto
    omega

set_option maxRecDepth 100000 in
set_option maxHeartbeats 8000000 in
theorem rRoute_calls (C : Array Value) (rb off cap : Nat) (rs : List R3) (host proto : ByteArray) (hC : C[27]? = some (.slice (some ⟨rb, off, none⟩) rs.length cap)) (w : World) (hrb : rb < w.heap.size) (hR : RoutesAt w rb off rs)
    (hrs : rs.length ≤ 140737488351240) (hsz : ∀ (i : Nat) (hi : i < rs.length), rs[i].1.size ≤ 140737488351240) (hho : host.size ≤ 140737488351240) :
    Calls Tryz.prog 12 #[.agg C, .string host, .string proto] w fun e w' => e = .returned (.int .i64 (bestOf rs host.data.toList proto.data.toList).2) ∧ Below w.heap.size w w' := by
  have HR := Lib.hid hR
  have HS := Lib.hid hsz
  have hB0 : Blk (w.alloc (.cells C 49)) w.heap.size C 49 := Blk.new _ _ _
  clear hR hsz
  go_enter Tryz.func12, Tryz.ntmps12
  go_wp2_with fail
  go_loopw [7] (fun u wr => ∃ (v : Nat), 1 ≤ v ∧ v ≤ 7 ∧ u = .int .i64 v ∧ NoneYet rs host.data.toList proto.data.toList v 0 ∧ Below w.heap.size w wr ∧ Blk wr w.heap.size C 49) (fun u _ => 7 - (intOf u).toNat)
  case atStart => exact ⟨1, by omega, by omega, rfl, noneYet_start _ _ _, (Below.refl _ w).alloc (Nat.le_refl _) _, hB0⟩
  case round =>
    obtain ⟨v, hv1, hv7, rfl, hN, hB, hE⟩ := hrel
    by_cases hv6 : v ≤ 6
    · have d6 : decide ((v : Int) ≤ 6) = true := by simp; omega
      go_wp2_with fail
      obtain ⟨wo, hwo⟩ : ∃ wo : World, wo = wr := ⟨_, rfl⟩
      rw [← hwo] at hB hE ⊢
      clear hwo
      go_loopw [8] (fun u wr => ∃ (i : Nat), i ≤ rs.length ∧ u = .int .i64 i ∧ NoneYet rs host.data.toList proto.data.toList v i ∧ Below w.heap.size w wr ∧ Blk wr w.heap.size C 49) (fun u _ => rs.length - (intOf u).toNat)
      case atStart => exact ⟨0, by omega, rfl, hN, hB, hE⟩
      case round =>
        obtain ⟨i, hi, rfl, hN2, hB2, hE2⟩ := hrel
        have e27 := hE2.cell 27
        rw [hC] at e27
        by_cases hlt : i < rs.length
        · have hc := (HR.out.below hB2 hrb) i hlt
          have hs1 := HS.out i hlt
          obtain ⟨⟨h, p, b⟩, hr⟩ : ∃ r, rs[i] = r := ⟨_, rfl⟩
          obtain ⟨R, hRk⟩ : ∃ R, rankOf rs[i] host.data.toList proto.data.toList = R := ⟨_, rfl⟩
          have hres : R = v → (bestOf rs host.data.toList proto.data.toList).2 = b := fun e => by
            have := noneYet_found hN2 hv1 hlt (by rw [hRk]; exact e)
            rw [this, hr]
          have hnx : R ≠ v → NoneYet rs host.data.toList proto.data.toList v (i + 1) := fun e => noneYet_next hN2 hlt (by rw [hRk]; exact e)
          rw [hr] at hc hs1 hRk
          dsimp only at hc hs1
          have HK : Hid (∀ w, Calls Tryz.prog 23 #[.agg #[.string h, .string p, .int .i64 b], .string host, .string proto] w fun e w' => e = .returned (.int .i64 (R : Int)) ∧ Below w.heap.size w w') := by
            intro w
            have := kind_calls h p host proto b hs1 hho w
            rw [show rank h.data.toList p.data.toList host.data.toList proto.data.toList = R from hRk] at this
            exact this
          have c0 := hc.1
          have c1 := hc.2.1
          have c2 := hc.2.2
          have hBs := hB2.size
          clear hr hRk
          by_cases heq : R = v
          · have HV := Lib.hid (hres heq)
            subst heq
            clear hres hnx
            have hBB : rb < wr.heap.size := by omega
            go_wp2_with (go_at_call 23; refine (HK.out _).mono ?_; rintro e w2 ⟨rfl, B2⟩; have f27 := (B2.cell (p := ⟨w.heap.size, 27, none⟩) hE2.lt).trans e27; have f2 := (B2.cell (p := ⟨rb, off + i * 3 + 2, none⟩) hBB).trans c2; have B2' := hB2.trans (B2.mono hBs))
            go_ret
            exact ⟨by rw [HV.out]; rfl, by assumption⟩
          · have HX := Lib.hid (hnx heq)
            have hbq : ((R : Int) == (v : Int)) = false := by simp; omega
            clear hres hnx heq
            go_wp2_with (go_at_call 23; refine (HK.out _).mono ?_; rintro e w2 ⟨rfl, B2⟩; have B2' := hB2.trans (B2.mono hBs); have hE3 := hE2.below B2 hE2.lt)
            go_roundw
            case rel =>
              exact ⟨i + 1, by omega, by go_num, HX.out, by assumption, by assumption⟩
            case measure => simp [intOf]; omega
        · have hup := noneYet_up hN2 (Nat.le_of_not_lt hlt)
          have HU := Lib.hid hup
          clear hup
          go_wp2
          go_roundw
          case rel => exact ⟨v + 1, by omega, by omega, by go_num, HU.out, hB2, hE2⟩
          case measure => simp [intOf]; omega
    · obtain rfl : v = 7 := by omega
      have HV := Lib.hid (noneYet_end hN)
      go_wp2
      go_ret
      exact ⟨by rw [HV.out]; rfl, hB⟩
end Go.Proofs.YtjokcflpjpophaaGreatDoor
