/- The walk of the law ProxyTells. Conditions: the texts within the reach. -/
import Derived.Test.YtnlboodclaliaaaGreatDoorHeadTells
import Derived.Deep.RegionWith
import Derived.Deep.DrawnRows
namespace Go.Proofs.YtnlboodclaliaaaGreatDoor
open Go.RowKit Go.Lib
attribute [local go_sem ↓] Go.wp_at_zero Go.wp_at_succ

/-- Bytes read as a text, as one word. -/
noncomputable def textR (w : World) (g n cap : Nat) : Result Value := (convert 23 9 (.slice (some ⟨g, 0, none⟩) n cap)).run Tryz.prog w
theorem Gives.text {w' : World} {xs : List Value} {l : List UInt8} {g cap : Nat} (hl : xs = l.map fun b => .int .u8 (b.toNat : Int)) (hc : ∀ j u, xs[j]? = some u → w'.cell? ⟨g, j, none⟩ = some u) :
    textR w' g xs.length cap = .ok (.string ⟨l.toArray⟩) w' := by
  unfold textR
  have hn : xs.length = l.length := by rw [hl, List.length_map]
  rw [hn]
  refine run_convert_bytes_back w' 23 9 5 ⟨g, 0, none⟩ cap l Tryz.underlying23 Tryz.underlying5 Tryz.underlying9 (fun j hj => ?_)
  rw [add_off]
  exact hc j _ (by rw [hl]; simp [hj])

set_option maxRecDepth 100000 in
set_option maxHeartbeats 1500000 in
theorem walk_tells (source id addr : Int) (host protocol : ByteArray) (h1 : host.size ≤ 140737488351240) (h2 : protocol.size ≤ 140737488351240) (w : World) :
    Calls Tryz.prog 3 #[.int .i64 source, .int .i64 id, .int .i64 addr, .string host, .string protocol] w fun e w' => e = .returned (.bool true) ∧ Below w.heap.size w w' := by
  obtain ⟨l, hl⟩ : AllB (sigB (12 + (tell 2 host).length + (tell 1 protocol).length) ++ bodyB source id addr host protocol) := by
    have hl2 := tell_len 2 host
    have hl3 := tell_len 1 protocol
    refine .append ?_ (bodyB_all source id addr host protocol)
    exact .cons (by decide) (by decide) (.cons (by decide) (by decide) (.cons (by decide) (by decide) (.cons (by decide) (by decide) (.cons (by decide) (by decide) (.cons (by decide) (by decide) (.cons (by decide) (by decide) (.cons (by decide) (by decide) (.cons (by decide) (by decide) (.cons (by decide) (by decide) (.cons (by decide) (by decide) (.cons (by decide) (by decide) (.cons (by decide) (by decide) (.cons (by decide) (by decide) (.cons (by omega) (by omega) (.cons (by omega) (by omega) .nil)))))))))))))))
  obtain ⟨xs, hxs⟩ : ∃ xs, sigB (12 + (tell 2 host).length + (tell 1 protocol).length) ++ bodyB source id addr host protocol = xs := ⟨_, rfl⟩
  have hA := header_calls source id addr host protocol h1 h2
  have hB := twin_calls source id addr host protocol h1 h2
  rw [hxs] at hl hA hB
  have HA := Lib.hid hA
  have HB := Lib.hid hB
  have HL := Lib.hid hl
  clear hA hB hl hxs
  have kcv : ∀ (w : World) (g n cap : Nat), (convert 23 9 (.slice (some ⟨g, 0, none⟩) n cap)).run Tryz.prog w = textR w g n cap := fun _ _ _ _ => rfl
  go_enter Tryz.func3, Tryz.ntmps3
  go_wp2_with fail
  refine (head_calls w).mono ?_
  rintro e w1 ⟨rfl, B1⟩
  dsimp only
  go_wp2_with fail
  have hB1 := B1.size
  refine wp_region_any (by kernel_rfl) ?_
  try (change wpAny _ _ _ _ _ _ _ (World.drew _))
  refine wpAny_take (i := 0) (v := ?v0_1) rfl (by kernel_rfl) (by kernel_rfl) (by kernel_rfl) (fun _ _ _ h => h) (Or.inl ⟨by kernel_rfl, ?y0_1⟩) ?r0_1
  case y0_1 =>
    intro w
    go_simp
    with_reducible rfl
  refine wpAny_take (i := 1) (v := ?v1_2) rfl (by kernel_rfl) (by kernel_rfl) (by kernel_rfl) (fun _ _ _ h => h) (Or.inl ⟨by kernel_rfl, ?y1_2⟩) ?r1_2
  case y1_2 =>
    intro w
    go_simp
    with_reducible rfl
  refine wpAny_take (i := 2) (v := ?v2_3) rfl (by kernel_rfl) (by kernel_rfl) (by kernel_rfl) (fun _ _ _ h => h) (Or.inl ⟨by kernel_rfl, ?y2_3⟩) ?r2_3
  case y2_3 =>
    intro w
    go_simp
    with_reducible rfl
  refine wpAny_take (i := 3) (v := ?v3_4) rfl (by kernel_rfl) (by kernel_rfl) (by kernel_rfl) (fun _ _ _ h => h) (Or.inl ⟨by kernel_rfl, ?y3_4⟩) ?r3_4
  case y3_4 =>
    intro w
    go_simp
    with_reducible rfl
  refine wpAny_take (i := 4) (v := ?v4_5) rfl (by kernel_rfl) (by kernel_rfl) (by kernel_rfl) (fun _ _ _ h => h) (Or.inl ⟨by kernel_rfl, ?y4_5⟩) ?r4_5
  case y4_5 =>
    intro w
    go_simp
    with_reducible rfl
  refine wpAny_take (i := 5) (v := ?v5_6) rfl (by kernel_rfl) (by kernel_rfl) (by kernel_rfl) (fun _ _ _ h => h) (Or.inl ⟨by kernel_rfl, ?y5_6⟩) ?r5_6
  case y5_6 =>
    intro w
    go_simp
    with_reducible rfl
  refine wpAny_take (i := 6) (v := ?v6_7) rfl (by kernel_rfl) (by kernel_rfl) (by kernel_rfl) (fun _ _ _ h => h) (Or.inl ⟨by kernel_rfl, ?y6_7⟩) ?r6_7
  case y6_7 =>
    intro w
    go_simp
    with_reducible rfl
  refine wpAny_take (i := 9) (v := ?v9_8) rfl (by kernel_rfl) (by kernel_rfl) (by kernel_rfl) (fun _ _ _ h => h) (Or.inl ⟨by kernel_rfl, ?y9_8⟩) ?r9_8
  case y9_8 =>
    intro w
    go_simp
    with_reducible rfl
  refine wpAny_take (i := 10) (v := ?v10_9) rfl (by kernel_rfl) (by kernel_rfl) (by kernel_rfl) (fun _ _ _ h => h) (Or.inl ⟨by kernel_rfl, ?y10_9⟩) ?r10_9
  case y10_9 =>
    intro w
    go_simp
    with_reducible rfl
  refine wpAny_take (i := 11) (v := ?v11_10) rfl (by kernel_rfl) (by kernel_rfl) (by kernel_rfl) (fun _ _ _ h => h) (Or.inl ⟨by kernel_rfl, ?y11_10⟩) ?r11_10
  case y11_10 =>
    intro w
    go_simp
    with_reducible rfl
  refine wpAny_take (i := 12) (v := ?v12_11) rfl (by kernel_rfl) (by kernel_rfl) (by kernel_rfl) (fun _ _ _ h => h) (Or.inl ⟨by kernel_rfl, ?y12_11⟩) ?r12_11
  case y12_11 =>
    intro w
    go_simp
    with_reducible rfl
  refine wpAny_take (i := 13) (v := ?v13_12) rfl (by kernel_rfl) (by kernel_rfl) (by kernel_rfl) (fun _ _ _ h => h) (Or.inl ⟨by kernel_rfl, ?y13_12⟩) ?r13_12
  case y13_12 =>
    intro w
    go_simp
    with_reducible rfl
  refine wpAny_ready (rs := [7]) (by kernel_rfl) (by simp) ?_
  refine AllReady.cons rfl (fun K hK => ?_) AllReady.nil
  go_simp
  refine (HA.out _).mono ?_
  rintro e wA ⟨gA, capA, rfl, hgA0, hgA1, BA, hcA⟩
  have kA := Gives.text (cap := capA) HL.out hcA
  dsimp only
  refine hK _ _ ?_
  refine wpAny_ready (rs := [8, 14]) (by kernel_rfl) (by simp) ?_
  refine AllReady.cons rfl (fun K hK => ?_) ?_
  · go_simp
    refine hK _ _ ?_
    refine wpAny_ready (rs := [14]) (by kernel_rfl) (by simp) ?_
    refine AllReady.cons rfl (fun K hK => ?_) AllReady.nil
    go_simp
    refine (HB.out _).mono ?_
    rintro e wB ⟨gB, capB, rfl, hgB0, hgB1, BB, hcB⟩
    have kB := Gives.text (cap := capB) HL.out hcB
    have kA2 := Gives.text (cap := capA) HL.out (fun j u hj => (BB.cell (p := ⟨gA, j, none⟩) hgA1).trans (hcA j u hj))
    have BW : Below w.heap.size w wB := B1.drew.trans ((BA.mono hB1).trans (BB.mono (Nat.le_trans hB1 BA.size)))
    dsimp only
    refine hK _ _ ?_
    refine wpAny_ready (rs := [15]) (by kernel_rfl) (by simp) ?_
    refine AllReady.cons rfl (fun K hK => ?_) AllReady.nil
    go_simp
    refine hK _ _ ?_
    refine wpAny_take (i := 16) (v := ?v16_13) rfl (by kernel_rfl) (by kernel_rfl) (by kernel_rfl) (fun _ _ _ h => h) (Or.inl ⟨by kernel_rfl, ?y16_13⟩) ?r16_13
    case y16_13 =>
      intro w
      go_simp
      with_reducible rfl
    refine wpAny_take (i := 17) (v := ?v17_14) rfl (by kernel_rfl) (by kernel_rfl) (by kernel_rfl) (fun _ _ _ h => h) (Or.inl ⟨by kernel_rfl, ?y17_14⟩) ?r17_14
    case y17_14 =>
      intro w
      go_simp
      with_reducible rfl
    refine wpAny_take (i := 18) (v := ?v18_15) rfl (by kernel_rfl) (by kernel_rfl) (by kernel_rfl) (fun _ _ _ h => h) (Or.inl ⟨by kernel_rfl, ?y18_15⟩) ?r18_15
    case y18_15 =>
      intro w
      go_simp
      with_reducible rfl
    refine wpAny_done (by kernel_rfl) ?_ _
    go_wp2
    go_ret
    exact ⟨rfl, BW⟩
  refine AllReady.cons rfl (fun K hK => ?_) AllReady.nil
  go_simp
  refine (HB.out _).mono ?_
  rintro e wB ⟨gB, capB, rfl, hgB0, hgB1, BB, hcB⟩
  have kB := Gives.text (cap := capB) HL.out hcB
  have kA2 := Gives.text (cap := capA) HL.out (fun j u hj => (BB.cell (p := ⟨gA, j, none⟩) hgA1).trans (hcA j u hj))
  have BW : Below w.heap.size w wB := B1.drew.trans ((BA.mono hB1).trans (BB.mono (Nat.le_trans hB1 BA.size)))
  dsimp only
  refine hK _ _ ?_
  refine wpAny_ready (rs := [8, 15]) (by kernel_rfl) (by simp) ?_
  refine AllReady.cons rfl (fun K hK => ?_) ?_
  · go_simp
    refine hK _ _ ?_
    refine wpAny_ready (rs := [15]) (by kernel_rfl) (by simp) ?_
    refine AllReady.cons rfl (fun K hK => ?_) AllReady.nil
    go_simp
    refine hK _ _ ?_
    refine wpAny_take (i := 16) (v := ?v16_16) rfl (by kernel_rfl) (by kernel_rfl) (by kernel_rfl) (fun _ _ _ h => h) (Or.inl ⟨by kernel_rfl, ?y16_16⟩) ?r16_16
    case y16_16 =>
      intro w
      go_simp
      with_reducible rfl
    refine wpAny_take (i := 17) (v := ?v17_17) rfl (by kernel_rfl) (by kernel_rfl) (by kernel_rfl) (fun _ _ _ h => h) (Or.inl ⟨by kernel_rfl, ?y17_17⟩) ?r17_17
    case y17_17 =>
      intro w
      go_simp
      with_reducible rfl
    refine wpAny_take (i := 18) (v := ?v18_18) rfl (by kernel_rfl) (by kernel_rfl) (by kernel_rfl) (fun _ _ _ h => h) (Or.inl ⟨by kernel_rfl, ?y18_18⟩) ?r18_18
    case y18_18 =>
      intro w
      go_simp
      with_reducible rfl
    refine wpAny_done (by kernel_rfl) ?_ _
    go_wp2
    go_ret
    exact ⟨rfl, BW⟩
  refine AllReady.cons rfl (fun K hK => ?_) AllReady.nil
  go_simp
  refine hK _ _ ?_
  refine wpAny_ready (rs := [8]) (by kernel_rfl) (by simp) ?_
  refine AllReady.cons rfl (fun K hK => ?_) AllReady.nil
  go_simp
  refine hK _ _ ?_
  refine wpAny_take (i := 16) (v := ?v16_19) rfl (by kernel_rfl) (by kernel_rfl) (by kernel_rfl) (fun _ _ _ h => h) (Or.inl ⟨by kernel_rfl, ?y16_19⟩) ?r16_19
  case y16_19 =>
    intro w
    go_simp
    with_reducible rfl
  refine wpAny_take (i := 17) (v := ?v17_20) rfl (by kernel_rfl) (by kernel_rfl) (by kernel_rfl) (fun _ _ _ h => h) (Or.inl ⟨by kernel_rfl, ?y17_20⟩) ?r17_20
  case y17_20 =>
    intro w
    go_simp
    with_reducible rfl
  refine wpAny_take (i := 18) (v := ?v18_21) rfl (by kernel_rfl) (by kernel_rfl) (by kernel_rfl) (fun _ _ _ h => h) (Or.inl ⟨by kernel_rfl, ?y18_21⟩) ?r18_21
  case y18_21 =>
    intro w
    go_simp
    with_reducible rfl
  refine wpAny_done (by kernel_rfl) ?_ _
  go_wp2
  go_ret
  exact ⟨rfl, BW⟩
end Go.Proofs.YtnlboodclaliaaaGreatDoor
