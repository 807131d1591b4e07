/- The document's SameConf: true at equal confs. Conditions: both confs' lists are in memory. -/
import Derived.Test.YtjokcflpjpophaaGreatDoorParseAll
import Derived.Test.YtjokcflpjpophaaGreatDoorTexts
namespace Go.Proofs.YtjokcflpjpophaaGreatDoor
open Go.RowKit
attribute [local go_sem ↓] Go.wp_at_zero Go.wp_at_succ

theorem ConfIs.below {w w' : World} {C : Array Value} {st : St} {A1 : Option Addr} {c1 : Nat} {A2 : Option Addr} {c2 : Nat} {A3 : Option Addr} {c3 : Nat} {hs : List HostV} (h : ConfIs w C st A1 c1 A2 c2 A3 c3 hs) (hb : Below w.heap.size w w') : ConfIs w' C st A1 c1 A2 c2 A3 c3 hs where
  C := h.C
  H := own_below h.H hb
  P := fun b hm => own_below (h.P b hm) hb
  hh := h.hh
  Bk := own_below h.Bk hb
  Rt := own_below h.Rt hb
  nH := h.nH
  nB := h.nB
  nR := h.nR
theorem own_hosts {w : World} {base c : Nat} {A : Option Addr} {bs : List HostV} (h : w.ownsRow base 72 5 (.slice A bs.length c) bs.length (bs.flatMap hostCells)) : 0 < bs.length → ∃ g, A = some ⟨g, 0, none⟩ ∧ g < w.heap.size ∧ HostAt w g bs := fun hp => by
  rcases own_form h with ⟨_, h0⟩ | ⟨g, cap, hv, hg, _⟩
  · omega
  · cases hv
    exact ⟨g, rfl, hg, own_HostAt h⟩
theorem proto_texts {w : World} {B : Nat} {b : HostV} (h : ProtoAt B w b) : ∃ A c, b.2 = .slice A b.1.protocols.length c ∧ TextsAt w A b.1.protocols := by
  unfold ProtoAt at h
  rcases own_form h with ⟨h0, h1⟩ | ⟨g, cap, hv, hg, _⟩
  · exact ⟨none, 0, by rw [h0, h1], fun hp => by omega⟩
  · refine ⟨some ⟨g, 0, none⟩, cap, hv, fun _ => ⟨g, rfl, hg, fun i hi => ?_⟩⟩
    rw [hv] at h
    exact own_cells h i _ (by simp [hi])
theorem proto_len {w : World} {B : Nat} {b : HostV} (h : ProtoAt B w b) : b.1.protocols.length ≤ 9223372036854775807 := by
  rcases h.2 with ⟨_, h0⟩ | ⟨g, cap, cur, _, _, _, h1, h2, _⟩
  · omega
  · unfold maxLen at h2; omega
/-- The state of an empty conf. -/
def stZ : St := fun _ => slot0
theorem conf_is {w : World} {C : Array Value} {r : Option St} (h : ConfOf w C r) : ∃ A1 c1 A2 c2 A3 c3 hs, ConfIs w C (r.getD stZ) A1 c1 A2 c2 A3 c3 hs := by
  cases r with
  | none =>
    obtain rfl : C = confZ := h
    exact ⟨none, 0, none, 0, none, 0, [], {
      C := rfl
      H := World.ownsRow_nil _ _ _ _
      P := fun b hb => by simp at hb
      hh := rfl
      Bk := World.ownsRow_nil _ _ _ _
      Rt := World.ownsRow_nil _ _ _ _
      nH := by simp
      nB := by show ([] : List BackL).length ≤ 16; simp
      nR := by show ([] : List RouteL).length ≤ 16; simp }⟩
  | some st => exact h

set_option maxRecDepth 100000 in
set_option maxHeartbeats 40000000 in
theorem same_calls (C C' : Array Value) (st st' : St) (A1 : Option Addr) (m1 : Nat) (A2 : Option Addr) (m2 : Nat) (A3 : Option Addr) (m3 : Nat) (hs : List HostV) (A1' : Option Addr) (m1' : Nat) (A2' : Option Addr) (m2' : Nat) (A3' : Option Addr) (m3' : Nat) (hs' : List HostV) (w : World)
    (h : ConfIs w C st A1 m1 A2 m2 A3 m3 hs) (h' : ConfIs w C' st' A1' m1' A2' m2' A3' m3' hs') :
    Calls Tryz.prog 8 #[.agg C, .agg C'] w fun e w' => SameR st st' w w' e := by
  have hC := h.C
  have hC' := h'.C
  subst hC hC'
  obtain ⟨W0, hW0⟩ : ∃ W, (w.alloc (.cells (confS st A1 hs.length m1 A2 (st 9).bs.length m2 A3 (st 10).rs.length m3) 28)).alloc (.cells (confS st' A1' hs'.length m1' A2' (st' 9).bs.length m2' A3' (st' 10).rs.length m3') 28) = W := ⟨_, rfl⟩
  have B0 : Below w.heap.size w W0 := by rw [← hW0]; exact ((Below.refl _ w).alloc (Nat.le_refl _) _).alloc (by simp) _
  have r0 : Blk W0 w.heap.size (confS st A1 hs.length m1 A2 (st 9).bs.length m2 A3 (st 10).rs.length m3) 28 := by rw [← hW0]; exact (Blk.new w _ _).alloc _
  have r1 : Blk W0 (w.heap.size + 1) (confS st' A1' hs'.length m1' A2' (st' 9).bs.length m2' A3' (st' 10).rs.length m3') 28 := by
    have := Blk.new (w.alloc (.cells (confS st A1 hs.length m1 A2 (st 9).bs.length m2 A3 (st 10).rs.length m3) 28)) (confS st' A1' hs'.length m1' A2' (st' 9).bs.length m2' A3' (st' 10).rs.length m3') 28
    rw [hW0] at this
    simpa only [World.size_alloc] using this
  have H := Lib.hid (And.intro (h.below B0) (h'.below B0))
  have hl : hs.length = (st 8).hs.length := by rw [← h.hh, List.length_map]
  have hl' : hs'.length = (st' 8).hs.length := by rw [← h'.hh, List.length_map]
  have HLN := Lib.hid (And.intro hl hl')
  have n1 := h.nH
  have n2 := h.nB
  have n3 := h.nR
  have k0 := fun i => r0.cell i
  have k1 := fun i => r1.cell i
  have HR := Lib.hid (And.intro r0 (And.intro r1 B0))
  have HW := Lib.hid hW0
  clear h h' r0 r1 hW0 B0 hl hl'
  simp only [confS] at k0 k1
  simp only [confS] at HW ⊢
  by_cases e1 : hs'.length = hs.length
  case neg =>
      have d1 : ((hs.length : Int) == (hs'.length : Int)) = false := beq_eq_false_iff_ne.2 (fun e => e1 (by omega))
      go_enter Tryz.func8, Tryz.ntmps8
      go_wp2
      go_ret
      rw [HW.out]
      exact ⟨false, rfl, fun e => absurd (by rw [HLN.out.1, HLN.out.2, e]) e1, HR.out.2.2⟩
  rw [e1] at k1 HW ⊢
  by_cases e2 : (st' 9).bs.length = (st 9).bs.length
  case neg =>
      have d2 : (((st 9).bs.length : Int) == ((st' 9).bs.length : Int)) = false := beq_eq_false_iff_ne.2 (fun e => e2 (by omega))
      go_enter Tryz.func8, Tryz.ntmps8
      go_wp2
      go_ret
      rw [HW.out]
      exact ⟨false, rfl, fun e => absurd (by rw [e]) e2, HR.out.2.2⟩
  rw [e2] at k1 HW ⊢
  by_cases e3 : (st' 10).rs.length = (st 10).rs.length
  case neg =>
      have d3 : (((st 10).rs.length : Int) == ((st' 10).rs.length : Int)) = false := beq_eq_false_iff_ne.2 (fun e => e3 (by omega))
      go_enter Tryz.func8, Tryz.ntmps8
      go_wp2
      go_ret
      rw [HW.out]
      exact ⟨false, rfl, fun e => absurd (by rw [e]) e3, HR.out.2.2⟩
  rw [e3] at k1 HW ⊢
  have HEQ := Lib.hid (And.intro e1 (And.intro e2 e3))
  clear e1 e2 e3
  go_enter Tryz.func8, Tryz.ntmps8
  go_wp2_with fail
  rw [HW.out]
  go_loopw [5] (fun i wr => TextRel W0 hs.length i wr) (fun i _ => hs.length - (intOf i).toNat)
  case atStart => exact ⟨0, rfl, Nat.zero_le _, Below.refl _ _⟩
  case round =>
    obtain ⟨k, rfl, hk, hB⟩ := hrel
    have q0 := fun i => (hB.cell (p := ⟨w.heap.size, i, none⟩) HR.out.1.lt).trans (k0 i)
    have q1 := fun i => (hB.cell (p := ⟨w.heap.size + 1, i, none⟩) HR.out.2.1.lt).trans (k1 i)
    by_cases hlt : k < hs.length
    · obtain ⟨g, rfl, hg, hc⟩ := own_hosts H.out.1.H (by omega)
      have hlt' : k < hs'.length := by rw [HEQ.out.1]; exact hlt
      obtain ⟨g', rfl, hg', hc'⟩ := own_hosts H.out.2.H (by omega)
      obtain ⟨c0, c1, c2, c3, c4⟩ := hc k hlt
      obtain ⟨d0, d1, d2, d3, d4⟩ := hc' k hlt'
      obtain ⟨PA, pc, hp, hT⟩ := proto_texts (H.out.1.P _ (List.getElem_mem hlt))
      obtain ⟨PA', pc', hp', hT'⟩ := proto_texts (H.out.2.P _ (List.getElem_mem hlt'))
      have hx : st = st' → hs[k].1 = hs'[k].1 := fun e => by
        have h1 : hs.map Prod.fst = hs'.map Prod.fst := by rw [H.out.1.hh, H.out.2.hh, e]
        have h2 := congrArg (·[k]?) h1
        simpa [hlt, hlt'] using h2
      have hpl := proto_len (H.out.1.P _ (List.getElem_mem hlt))
      rw [hp] at c4
      rw [hp'] at d4
      obtain ⟨x, hxe⟩ : ∃ x, hs[k].1 = x := ⟨_, rfl⟩
      obtain ⟨x', hxe'⟩ : ∃ x', hs'[k].1 = x' := ⟨_, rfl⟩
      rw [hxe] at c0 c1 c2 c3 c4 hT hx hpl
      rw [hxe'] at d0 d1 d2 d3 d4 hT' hx
      have HX := Lib.hid hx
      have c0 := (hB.cell (p := ⟨g, k * 5, none⟩) hg).trans c0
      have c1 := (hB.cell (p := ⟨g, k * 5 + 1, none⟩) hg).trans c1
      have c2 := (hB.cell (p := ⟨g, k * 5 + 2, none⟩) hg).trans c2
      have c3 := (hB.cell (p := ⟨g, k * 5 + 3, none⟩) hg).trans c3
      have c4 := (hB.cell (p := ⟨g, k * 5 + 4, none⟩) hg).trans c4
      have d0 := (hB.cell (p := ⟨g', k * 5, none⟩) hg').trans d0
      have d1 := (hB.cell (p := ⟨g', k * 5 + 1, none⟩) hg').trans d1
      have d2 := (hB.cell (p := ⟨g', k * 5 + 2, none⟩) hg').trans d2
      have d3 := (hB.cell (p := ⟨g', k * 5 + 3, none⟩) hg').trans d3
      have d4 := (hB.cell (p := ⟨g', k * 5 + 4, none⟩) hg').trans d4
      have lq0 : w.heap.size < wr.heap.size := Nat.lt_of_lt_of_le HR.out.1.lt hB.size
      have lq1 : w.heap.size + 1 < wr.heap.size := Nat.lt_of_lt_of_le HR.out.2.1.lt hB.size
      have lg : g < wr.heap.size := Nat.lt_of_lt_of_le hg hB.size
      have lg' : g' < wr.heap.size := Nat.lt_of_lt_of_le hg' hB.size
      obtain ⟨V, hV⟩ : ∃ V, (wr.alloc (.cells #[.string x.name, .string x.cert, .string x.key, .string x.staple, .slice PA x.protocols.length pc] 72)).alloc (.cells #[.string x'.name, .string x'.cert, .string x'.key, .string x'.staple, .slice PA' x'.protocols.length pc'] 72) = V := ⟨_, rfl⟩
      have BV : Below wr.heap.size wr V := by rw [← hV]; exact ((Below.refl _ wr).alloc (Nat.le_refl _) _).alloc (by simp) _
      have s6 : Blk V wr.heap.size #[.string x.name, .string x.cert, .string x.key, .string x.staple, .slice PA x.protocols.length pc] 72 := by rw [← hV]; exact (Blk.new wr _ _).alloc _
      have s7 : Blk V (wr.heap.size + 1) #[.string x'.name, .string x'.cert, .string x'.key, .string x'.staple, .slice PA' x'.protocols.length pc'] 72 := by
        have := Blk.new (wr.alloc (.cells #[.string x.name, .string x.cert, .string x.key, .string x.staple, .slice PA x.protocols.length pc] 72)) #[.string x'.name, .string x'.cert, .string x'.key, .string x'.staple, .slice PA' x'.protocols.length pc'] 72
        rw [hV] at this
        simpa only [World.size_alloc] using this
      have HS := Lib.hid (sameTexts_calls PA PA' pc pc' x.protocols x'.protocols V ((hT.below hB).below BV) ((hT'.below hB).below BV) hpl)
      have HSB := Lib.hid (And.intro s6 (And.intro s7 (hB.trans (BV.mono hB.size))))
      have HV := Lib.hid hV
      have m0 := s6.cell 4
      have m1 := s7.cell 4
      clear hc hc' hp hp' hT hT' hx hxe hxe' k0 k1 s6 s7 hV BV hpl
      go_wp2_with fail
      rw [HV.out]
      refine HS.out.mono ?_
      rintro e w2 ⟨b, rfl, hbe, B2⟩
      have n6 := HSB.out.1.below B2 HSB.out.1.lt
      have n7 := HSB.out.2.1.below B2 HSB.out.2.1.lt
      have u0 := n6.cell 0
      have u1 := n6.cell 1
      have u2 := n6.cell 2
      have u3 := n6.cell 3
      have t0 := n7.cell 0
      have t1 := n7.cell 1
      have t2 := n7.cell 2
      have t3 := n7.cell 3
      have HB2 := Lib.hid (HSB.out.2.2.trans (B2.mono HSB.out.2.2.size))
      have HB3 := Lib.hid (HR.out.2.2.trans (HB2.out.mono HR.out.2.2.size))
      have HBE := Lib.hid hbe
      clear n6 n7 B2 hbe
      dsimp only
      cases b with
      | false =>
        go_wp2
        go_ret
        exact ⟨false, rfl, fun e => HBE.out (by rw [HX.out e]), HB3.out⟩
      | true =>
        cases hb0 : (x.name.toList == x'.name.toList) with
        | false =>
          go_wp2
          go_ret
          exact ⟨false, rfl, fun e => (by rw [HX.out e, beq_self_eq_true] at hb0; cases hb0), HB3.out⟩
        | true =>
          cases hb1 : (x.cert.toList == x'.cert.toList) with
          | false =>
            go_wp2
            go_ret
            exact ⟨false, rfl, fun e => (by rw [HX.out e, beq_self_eq_true] at hb1; cases hb1), HB3.out⟩
          | true =>
            cases hb2 : (x.key.toList == x'.key.toList) with
            | false =>
              go_wp2
              go_ret
              exact ⟨false, rfl, fun e => (by rw [HX.out e, beq_self_eq_true] at hb2; cases hb2), HB3.out⟩
            | true =>
              cases hb3 : (x.staple.toList == x'.staple.toList) with
              | false =>
                go_wp2
                go_ret
                exact ⟨false, rfl, fun e => (by rw [HX.out e, beq_self_eq_true] at hb3; cases hb3), HB3.out⟩
              | true =>
                go_wp2
                go_roundw
                case rel => exact ⟨k + 1, by simp, by omega, HB2.out⟩
                case measure => simp [intOf]; omega
    · go_wp2
      clear q0 q1 hlt hk
      go_loopw [9] (fun i wr => TextRel W0 (st 9).bs.length i wr) (fun i _ => (st 9).bs.length - (intOf i).toNat)
      case atStart => exact ⟨0, rfl, Nat.zero_le _, hB⟩
      case round =>
        clear hB
        obtain ⟨k, rfl, hk, hB⟩ := hrel
        have q0 := fun i => (hB.cell (p := ⟨w.heap.size, i, none⟩) HR.out.1.lt).trans (k0 i)
        have q1 := fun i => (hB.cell (p := ⟨w.heap.size + 1, i, none⟩) HR.out.2.1.lt).trans (k1 i)
        by_cases hlt : k < (st 9).bs.length
        · obtain ⟨g, rfl, hg, hc⟩ := own_backs H.out.1.Bk (by omega)
          have hlt' : k < (st' 9).bs.length := by rw [HEQ.out.2.1]; exact hlt
          obtain ⟨g', rfl, hg', hc'⟩ := own_backs H.out.2.Bk (by omega)
          obtain ⟨c0, c1, c2, c3⟩ := hc k hlt
          obtain ⟨d0, d1, d2, d3⟩ := hc' k hlt'
          have hx : st = st' → (st 9).bs[k] = (st' 9).bs[k] := fun e => by subst e; rfl
          obtain ⟨x, hxe⟩ : ∃ x, (st 9).bs[k] = x := ⟨_, rfl⟩
          obtain ⟨x', hxe'⟩ : ∃ x', (st' 9).bs[k] = x' := ⟨_, rfl⟩
          rw [hxe] at c0 c1 c2 c3 hx
          rw [hxe'] at d0 d1 d2 d3 hx
          have HX := Lib.hid hx
          have c0 := (hB.cell (p := ⟨g, k * 4, none⟩) hg).trans c0
          have c1 := (hB.cell (p := ⟨g, k * 4 + 1, none⟩) hg).trans c1
          have c2 := (hB.cell (p := ⟨g, k * 4 + 2, none⟩) hg).trans c2
          have c3 := (hB.cell (p := ⟨g, k * 4 + 3, none⟩) hg).trans c3
          have d0 := (hB.cell (p := ⟨g', k * 4, none⟩) hg').trans d0
          have d1 := (hB.cell (p := ⟨g', k * 4 + 1, none⟩) hg').trans d1
          have d2 := (hB.cell (p := ⟨g', k * 4 + 2, none⟩) hg').trans d2
          have d3 := (hB.cell (p := ⟨g', k * 4 + 3, none⟩) hg').trans d3
          have HB := Lib.hid hB
          have z0 := q0 13
          have z1 := q1 13
          simp at z0 z1
          clear hc hc' hx hxe hxe' k0 k1 q0 q1 hB
          go_wp2_with fail
          cases hb0 : (x.name.toList == x'.name.toList) with
          | false =>
            go_region_held3 (fun w' => w'.cell? ⟨w.heap.size, 13, none⟩ = some (.slice (some ⟨g, 0, none⟩) (st 9).bs.length m2) ∧ w'.cell? ⟨w.heap.size + 1, 13, none⟩ = some (.slice (some ⟨g', 0, none⟩) (st 9).bs.length m2') ∧ w'.cell? ⟨g, k * 4, none⟩ = some (.string x.name) ∧ w'.cell? ⟨g, k * 4 + 1, none⟩ = some (.int .i64 x.addr) ∧ w'.cell? ⟨g, k * 4 + 2, none⟩ = some (.string x.host) ∧ w'.cell? ⟨g, k * 4 + 3, none⟩ = some (.string x.roots) ∧ w'.cell? ⟨g', k * 4, none⟩ = some (.string x'.name) ∧ w'.cell? ⟨g', k * 4 + 1, none⟩ = some (.int .i64 x'.addr) ∧ w'.cell? ⟨g', k * 4 + 2, none⟩ = some (.string x'.host) ∧ w'.cell? ⟨g', k * 4 + 3, none⟩ = some (.string x'.roots)) (go_keep) (fail)
            go_wp2
            go_ret
            exact ⟨false, rfl, fun e => (by rw [HX.out e, beq_self_eq_true] at hb0; cases hb0), HR.out.2.2.trans (HB.out.drew.mono HR.out.2.2.size)⟩
          | true =>
            cases hb1 : (x.addr == x'.addr) with
            | false =>
              go_region_held3 (fun w' => w'.cell? ⟨w.heap.size, 13, none⟩ = some (.slice (some ⟨g, 0, none⟩) (st 9).bs.length m2) ∧ w'.cell? ⟨w.heap.size + 1, 13, none⟩ = some (.slice (some ⟨g', 0, none⟩) (st 9).bs.length m2') ∧ w'.cell? ⟨g, k * 4, none⟩ = some (.string x.name) ∧ w'.cell? ⟨g, k * 4 + 1, none⟩ = some (.int .i64 x.addr) ∧ w'.cell? ⟨g, k * 4 + 2, none⟩ = some (.string x.host) ∧ w'.cell? ⟨g, k * 4 + 3, none⟩ = some (.string x.roots) ∧ w'.cell? ⟨g', k * 4, none⟩ = some (.string x'.name) ∧ w'.cell? ⟨g', k * 4 + 1, none⟩ = some (.int .i64 x'.addr) ∧ w'.cell? ⟨g', k * 4 + 2, none⟩ = some (.string x'.host) ∧ w'.cell? ⟨g', k * 4 + 3, none⟩ = some (.string x'.roots)) (go_keep) (fail)
              go_wp2
              go_ret
              exact ⟨false, rfl, fun e => (by rw [HX.out e, beq_self_eq_true] at hb1; cases hb1), HR.out.2.2.trans (HB.out.drew.mono HR.out.2.2.size)⟩
            | true =>
              cases hb2 : (x.host.toList == x'.host.toList) with
              | false =>
                go_region_held3 (fun w' => w'.cell? ⟨w.heap.size, 13, none⟩ = some (.slice (some ⟨g, 0, none⟩) (st 9).bs.length m2) ∧ w'.cell? ⟨w.heap.size + 1, 13, none⟩ = some (.slice (some ⟨g', 0, none⟩) (st 9).bs.length m2') ∧ w'.cell? ⟨g, k * 4, none⟩ = some (.string x.name) ∧ w'.cell? ⟨g, k * 4 + 1, none⟩ = some (.int .i64 x.addr) ∧ w'.cell? ⟨g, k * 4 + 2, none⟩ = some (.string x.host) ∧ w'.cell? ⟨g, k * 4 + 3, none⟩ = some (.string x.roots) ∧ w'.cell? ⟨g', k * 4, none⟩ = some (.string x'.name) ∧ w'.cell? ⟨g', k * 4 + 1, none⟩ = some (.int .i64 x'.addr) ∧ w'.cell? ⟨g', k * 4 + 2, none⟩ = some (.string x'.host) ∧ w'.cell? ⟨g', k * 4 + 3, none⟩ = some (.string x'.roots)) (go_keep) (fail)
                go_wp2
                go_ret
                exact ⟨false, rfl, fun e => (by rw [HX.out e, beq_self_eq_true] at hb2; cases hb2), HR.out.2.2.trans (HB.out.drew.mono HR.out.2.2.size)⟩
              | true =>
                cases hb3 : (x.roots.toList == x'.roots.toList) with
                | false =>
                  go_region_held3 (fun w' => w'.cell? ⟨w.heap.size, 13, none⟩ = some (.slice (some ⟨g, 0, none⟩) (st 9).bs.length m2) ∧ w'.cell? ⟨w.heap.size + 1, 13, none⟩ = some (.slice (some ⟨g', 0, none⟩) (st 9).bs.length m2') ∧ w'.cell? ⟨g, k * 4, none⟩ = some (.string x.name) ∧ w'.cell? ⟨g, k * 4 + 1, none⟩ = some (.int .i64 x.addr) ∧ w'.cell? ⟨g, k * 4 + 2, none⟩ = some (.string x.host) ∧ w'.cell? ⟨g, k * 4 + 3, none⟩ = some (.string x.roots) ∧ w'.cell? ⟨g', k * 4, none⟩ = some (.string x'.name) ∧ w'.cell? ⟨g', k * 4 + 1, none⟩ = some (.int .i64 x'.addr) ∧ w'.cell? ⟨g', k * 4 + 2, none⟩ = some (.string x'.host) ∧ w'.cell? ⟨g', k * 4 + 3, none⟩ = some (.string x'.roots)) (go_keep) (fail)
                  go_wp2
                  go_ret
                  exact ⟨false, rfl, fun e => (by rw [HX.out e, beq_self_eq_true] at hb3; cases hb3), HR.out.2.2.trans (HB.out.drew.mono HR.out.2.2.size)⟩
                | true =>
                  go_region_held3 (fun w' => w'.cell? ⟨w.heap.size, 13, none⟩ = some (.slice (some ⟨g, 0, none⟩) (st 9).bs.length m2) ∧ w'.cell? ⟨w.heap.size + 1, 13, none⟩ = some (.slice (some ⟨g', 0, none⟩) (st 9).bs.length m2') ∧ w'.cell? ⟨g, k * 4, none⟩ = some (.string x.name) ∧ w'.cell? ⟨g, k * 4 + 1, none⟩ = some (.int .i64 x.addr) ∧ w'.cell? ⟨g, k * 4 + 2, none⟩ = some (.string x.host) ∧ w'.cell? ⟨g, k * 4 + 3, none⟩ = some (.string x.roots) ∧ w'.cell? ⟨g', k * 4, none⟩ = some (.string x'.name) ∧ w'.cell? ⟨g', k * 4 + 1, none⟩ = some (.int .i64 x'.addr) ∧ w'.cell? ⟨g', k * 4 + 2, none⟩ = some (.string x'.host) ∧ w'.cell? ⟨g', k * 4 + 3, none⟩ = some (.string x'.roots)) (go_keep) (fail)
                  go_wp2
                  go_roundw
                  case rel => exact ⟨k + 1, by simp, by omega, HB.out.drew⟩
                  case measure => simp [intOf]; omega
        · go_wp2
          clear q0 q1 hlt hk
          go_loopw [10] (fun i wr => TextRel W0 (st 10).rs.length i wr) (fun i _ => (st 10).rs.length - (intOf i).toNat)
          case atStart => exact ⟨0, rfl, Nat.zero_le _, hB⟩
          case round =>
            clear hB
            obtain ⟨k, rfl, hk, hB⟩ := hrel
            have q0 := fun i => (hB.cell (p := ⟨w.heap.size, i, none⟩) HR.out.1.lt).trans (k0 i)
            have q1 := fun i => (hB.cell (p := ⟨w.heap.size + 1, i, none⟩) HR.out.2.1.lt).trans (k1 i)
            by_cases hlt : k < (st 10).rs.length
            · obtain ⟨g, rfl, hg, hc⟩ := own_routes H.out.1.Rt (by omega)
              have hlt' : k < (st' 10).rs.length := by rw [HEQ.out.2.2]; exact hlt
              obtain ⟨g', rfl, hg', hc'⟩ := own_routes H.out.2.Rt (by omega)
              obtain ⟨c0, c1, c2⟩ := hc k hlt
              obtain ⟨d0, d1, d2⟩ := hc' k hlt'
              have hx : st = st' → (st 10).rs[k] = (st' 10).rs[k] := fun e => by subst e; rfl
              obtain ⟨x, hxe⟩ : ∃ x, (st 10).rs[k] = x := ⟨_, rfl⟩
              obtain ⟨x', hxe'⟩ : ∃ x', (st' 10).rs[k] = x' := ⟨_, rfl⟩
              rw [hxe] at c0 c1 c2 hx
              rw [hxe'] at d0 d1 d2 hx
              have HX := Lib.hid hx
              have c0 := (hB.cell (p := ⟨g, k * 3, none⟩) hg).trans c0
              have c1 := (hB.cell (p := ⟨g, k * 3 + 1, none⟩) hg).trans c1
              have c2 := (hB.cell (p := ⟨g, k * 3 + 2, none⟩) hg).trans c2
              have d0 := (hB.cell (p := ⟨g', k * 3, none⟩) hg').trans d0
              have d1 := (hB.cell (p := ⟨g', k * 3 + 1, none⟩) hg').trans d1
              have d2 := (hB.cell (p := ⟨g', k * 3 + 2, none⟩) hg').trans d2
              have HB := Lib.hid hB
              have z0 := q0 14
              have z1 := q1 14
              simp at z0 z1
              clear hc hc' hx hxe hxe' k0 k1 q0 q1 hB
              go_wp2_with fail
              cases hb0 : (x.host.toList == x'.host.toList) with
              | false =>
                go_region_held3 (fun w' => w'.cell? ⟨w.heap.size, 14, none⟩ = some (.slice (some ⟨g, 0, none⟩) (st 10).rs.length m3) ∧ w'.cell? ⟨w.heap.size + 1, 14, none⟩ = some (.slice (some ⟨g', 0, none⟩) (st 10).rs.length m3') ∧ w'.cell? ⟨g, k * 3, none⟩ = some (.string x.host) ∧ w'.cell? ⟨g, k * 3 + 1, none⟩ = some (.string x.proto) ∧ w'.cell? ⟨g, k * 3 + 2, none⟩ = some (.string x.backend) ∧ w'.cell? ⟨g', k * 3, none⟩ = some (.string x'.host) ∧ w'.cell? ⟨g', k * 3 + 1, none⟩ = some (.string x'.proto) ∧ w'.cell? ⟨g', k * 3 + 2, none⟩ = some (.string x'.backend)) (go_keep) (fail)
                go_wp2
                go_ret
                exact ⟨false, rfl, fun e => (by rw [HX.out e, beq_self_eq_true] at hb0; cases hb0), HR.out.2.2.trans (HB.out.drew.mono HR.out.2.2.size)⟩
              | true =>
                cases hb1 : (x.proto.toList == x'.proto.toList) with
                | false =>
                  go_region_held3 (fun w' => w'.cell? ⟨w.heap.size, 14, none⟩ = some (.slice (some ⟨g, 0, none⟩) (st 10).rs.length m3) ∧ w'.cell? ⟨w.heap.size + 1, 14, none⟩ = some (.slice (some ⟨g', 0, none⟩) (st 10).rs.length m3') ∧ w'.cell? ⟨g, k * 3, none⟩ = some (.string x.host) ∧ w'.cell? ⟨g, k * 3 + 1, none⟩ = some (.string x.proto) ∧ w'.cell? ⟨g, k * 3 + 2, none⟩ = some (.string x.backend) ∧ w'.cell? ⟨g', k * 3, none⟩ = some (.string x'.host) ∧ w'.cell? ⟨g', k * 3 + 1, none⟩ = some (.string x'.proto) ∧ w'.cell? ⟨g', k * 3 + 2, none⟩ = some (.string x'.backend)) (go_keep) (fail)
                  go_wp2
                  go_ret
                  exact ⟨false, rfl, fun e => (by rw [HX.out e, beq_self_eq_true] at hb1; cases hb1), HR.out.2.2.trans (HB.out.drew.mono HR.out.2.2.size)⟩
                | true =>
                  cases hb2 : (x.backend.toList == x'.backend.toList) with
                  | false =>
                    go_region_held3 (fun w' => w'.cell? ⟨w.heap.size, 14, none⟩ = some (.slice (some ⟨g, 0, none⟩) (st 10).rs.length m3) ∧ w'.cell? ⟨w.heap.size + 1, 14, none⟩ = some (.slice (some ⟨g', 0, none⟩) (st 10).rs.length m3') ∧ w'.cell? ⟨g, k * 3, none⟩ = some (.string x.host) ∧ w'.cell? ⟨g, k * 3 + 1, none⟩ = some (.string x.proto) ∧ w'.cell? ⟨g, k * 3 + 2, none⟩ = some (.string x.backend) ∧ w'.cell? ⟨g', k * 3, none⟩ = some (.string x'.host) ∧ w'.cell? ⟨g', k * 3 + 1, none⟩ = some (.string x'.proto) ∧ w'.cell? ⟨g', k * 3 + 2, none⟩ = some (.string x'.backend)) (go_keep) (fail)
                    go_wp2
                    go_ret
                    exact ⟨false, rfl, fun e => (by rw [HX.out e, beq_self_eq_true] at hb2; cases hb2), HR.out.2.2.trans (HB.out.drew.mono HR.out.2.2.size)⟩
                  | true =>
                    go_region_held3 (fun w' => w'.cell? ⟨w.heap.size, 14, none⟩ = some (.slice (some ⟨g, 0, none⟩) (st 10).rs.length m3) ∧ w'.cell? ⟨w.heap.size + 1, 14, none⟩ = some (.slice (some ⟨g', 0, none⟩) (st 10).rs.length m3') ∧ w'.cell? ⟨g, k * 3, none⟩ = some (.string x.host) ∧ w'.cell? ⟨g, k * 3 + 1, none⟩ = some (.string x.proto) ∧ w'.cell? ⟨g, k * 3 + 2, none⟩ = some (.string x.backend) ∧ w'.cell? ⟨g', k * 3, none⟩ = some (.string x'.host) ∧ w'.cell? ⟨g', k * 3 + 1, none⟩ = some (.string x'.proto) ∧ w'.cell? ⟨g', k * 3 + 2, none⟩ = some (.string x'.backend)) (go_keep) (fail)
                    go_wp2
                    go_roundw
                    case rel => exact ⟨k + 1, by simp, by omega, HB.out.drew⟩
                    case measure => simp [intOf]; omega
            · have y14 : wr.cell? ⟨w.heap.size, 14, none⟩ = some (.slice A3 (st 10).rs.length m3) := q0 14
              have HB := Lib.hid hB
              go_upto_region 21 with (fail)
              have y0 : wr.cell? ⟨w.heap.size, 0, none⟩ = some (.int .i64 (st 0).a) := q0 0
              have v0 : wr.cell? ⟨w.heap.size + 1, 0, none⟩ = some (.int .i64 (st' 0).a) := q1 0
              have y1 : wr.cell? ⟨w.heap.size, 1, none⟩ = some (.int .i64 (st 1).a) := q0 1
              have v1 : wr.cell? ⟨w.heap.size + 1, 1, none⟩ = some (.int .i64 (st' 1).a) := q1 1
              have y2 : wr.cell? ⟨w.heap.size, 2, none⟩ = some (.int .i64 (st 5).a) := q0 2
              have v2 : wr.cell? ⟨w.heap.size + 1, 2, none⟩ = some (.int .i64 (st' 5).a) := q1 2
              have y3 : wr.cell? ⟨w.heap.size, 3, none⟩ = some (.int .i64 (st 5).b) := q0 3
              have v3 : wr.cell? ⟨w.heap.size + 1, 3, none⟩ = some (.int .i64 (st' 5).b) := q1 3
              have y4 : wr.cell? ⟨w.heap.size, 4, none⟩ = some (.int .i64 (st 2).a) := q0 4
              have v4 : wr.cell? ⟨w.heap.size + 1, 4, none⟩ = some (.int .i64 (st' 2).a) := q1 4
              have y5 : wr.cell? ⟨w.heap.size, 5, none⟩ = some (.int .i64 (st 3).a) := q0 5
              have v5 : wr.cell? ⟨w.heap.size + 1, 5, none⟩ = some (.int .i64 (st' 3).a) := q1 5
              have y6 : wr.cell? ⟨w.heap.size, 6, none⟩ = some (.int .i64 (st 4).a) := q0 6
              have v6 : wr.cell? ⟨w.heap.size + 1, 6, none⟩ = some (.int .i64 (st' 4).a) := q1 6
              have y7 : wr.cell? ⟨w.heap.size, 7, none⟩ = some (.string (st 6).t) := q0 7
              have v7 : wr.cell? ⟨w.heap.size + 1, 7, none⟩ = some (.string (st' 6).t) := q1 7
              have y8 : wr.cell? ⟨w.heap.size, 8, none⟩ = some (.int .i64 (st 6).a) := q0 8
              have v8 : wr.cell? ⟨w.heap.size + 1, 8, none⟩ = some (.int .i64 (st' 6).a) := q1 8
              have y9 : wr.cell? ⟨w.heap.size, 9, none⟩ = some (.int .i64 (st 6).b) := q0 9
              have v9 : wr.cell? ⟨w.heap.size + 1, 9, none⟩ = some (.int .i64 (st' 6).b) := q1 9
              have y10 : wr.cell? ⟨w.heap.size, 10, none⟩ = some (.string (st 7).t) := q0 10
              have v10 : wr.cell? ⟨w.heap.size + 1, 10, none⟩ = some (.string (st' 7).t) := q1 10
              have y11 : wr.cell? ⟨w.heap.size, 11, none⟩ = some (.bool (st 7).m) := q0 11
              have v11 : wr.cell? ⟨w.heap.size + 1, 11, none⟩ = some (.bool (st' 7).m) := q1 11
              rename_i r2 r3 r4 r5 r6 r7 r8 r9 r10 r11 r12 r13 r14 r15 r16 r17 r18 r19 r20 r21 r22
              clear r9 r16 r20 k0 k1 n1 n2 n3 hk hlt q0 q1 hB y14 HLN HEQ H HW
              simp only [List.append]
              cases hb0 : ((st 0).a == (st' 0).a) with
              | false =>
                go_wp2
                go_ret
                exact ⟨false, rfl, fun e => (by rw [e, beq_self_eq_true] at hb0; cases hb0), HR.out.2.2.trans (HB.out.mono HR.out.2.2.size)⟩
              | true =>
                cases hb1 : ((st 1).a == (st' 1).a) with
                | false =>
                  go_wp2
                  go_ret
                  exact ⟨false, rfl, fun e => (by rw [e, beq_self_eq_true] at hb1; cases hb1), HR.out.2.2.trans (HB.out.mono HR.out.2.2.size)⟩
                | true =>
                  cases hb2 : ((st 5).a == (st' 5).a) with
                  | false =>
                    go_wp2
                    go_ret
                    exact ⟨false, rfl, fun e => (by rw [e, beq_self_eq_true] at hb2; cases hb2), HR.out.2.2.trans (HB.out.mono HR.out.2.2.size)⟩
                  | true =>
                    cases hb3 : ((st 5).b == (st' 5).b) with
                    | false =>
                      go_wp2
                      go_ret
                      exact ⟨false, rfl, fun e => (by rw [e, beq_self_eq_true] at hb3; cases hb3), HR.out.2.2.trans (HB.out.mono HR.out.2.2.size)⟩
                    | true =>
                      cases hb4 : ((st 2).a == (st' 2).a) with
                      | false =>
                        go_wp2
                        go_ret
                        exact ⟨false, rfl, fun e => (by rw [e, beq_self_eq_true] at hb4; cases hb4), HR.out.2.2.trans (HB.out.mono HR.out.2.2.size)⟩
                      | true =>
                        cases hb5 : ((st 3).a == (st' 3).a) with
                        | false =>
                          go_wp2
                          go_ret
                          exact ⟨false, rfl, fun e => (by rw [e, beq_self_eq_true] at hb5; cases hb5), HR.out.2.2.trans (HB.out.mono HR.out.2.2.size)⟩
                        | true =>
                          cases hb6 : ((st 4).a == (st' 4).a) with
                          | false =>
                            go_wp2
                            go_ret
                            exact ⟨false, rfl, fun e => (by rw [e, beq_self_eq_true] at hb6; cases hb6), HR.out.2.2.trans (HB.out.mono HR.out.2.2.size)⟩
                          | true =>
                            cases hb7 : ((st 6).t.toList == (st' 6).t.toList) with
                            | false =>
                              go_wp2
                              go_ret
                              exact ⟨false, rfl, fun e => (by rw [e, beq_self_eq_true] at hb7; cases hb7), HR.out.2.2.trans (HB.out.mono HR.out.2.2.size)⟩
                            | true =>
                              cases hb8 : ((st 6).a == (st' 6).a) with
                              | false =>
                                go_wp2
                                go_ret
                                exact ⟨false, rfl, fun e => (by rw [e, beq_self_eq_true] at hb8; cases hb8), HR.out.2.2.trans (HB.out.mono HR.out.2.2.size)⟩
                              | true =>
                                cases hb9 : ((st 6).b == (st' 6).b) with
                                | false =>
                                  go_wp2
                                  go_ret
                                  exact ⟨false, rfl, fun e => (by rw [e, beq_self_eq_true] at hb9; cases hb9), HR.out.2.2.trans (HB.out.mono HR.out.2.2.size)⟩
                                | true =>
                                  cases hb10 : ((st 7).t.toList == (st' 7).t.toList) with
                                  | false =>
                                    go_wp2
                                    go_ret
                                    exact ⟨false, rfl, fun e => (by rw [e, beq_self_eq_true] at hb10; cases hb10), HR.out.2.2.trans (HB.out.mono HR.out.2.2.size)⟩
                                  | true =>
                                    go_wp2
                                    go_ret
                                    exact ⟨_, rfl, fun e => (by rw [e]; exact beq_self_eq_true _), HR.out.2.2.trans (HB.out.mono HR.out.2.2.size)⟩
end Go.Proofs.YtjokcflpjpophaaGreatDoor
