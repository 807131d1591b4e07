/- (reader).host: a line of a host. Conditions: the words fit; the reader's block, its map, its list of hosts and the words are there. -/
import Derived.Test.YtjokcflpjpophaaGreatDoorHostBox
namespace Go.Proofs.YtjokcflpjpophaaGreatDoor
open Go.RowKit
attribute [local go_sem ↓] Go.wp_at_zero Go.wp_at_succ
attribute [local go_sem] Oper.semAt_some

def hostSpec (x1 x2 x3 : ByteArray) (R : Except Int HostL) (bs : List HostL) : Except Int (List HostL) :=
  nameE (patV x1) (nameE (ofV fileL x2) (nameE (ofV fileL x3) (bindE R fun h => putE bs h (fun x => decide (lowB x.name = lowB h.name)) id)))

set_option maxRecDepth 100000 in
set_option maxHeartbeats 4000000 in
theorem host_calls (B rb sm ww : Nat) (C : Array Value) (hv : Value) (bs : List HostV) (x0 x1 x2 x3 : ByteArray) (xr : List ByteArray) (cap : Nat) (es : Array MapEntry) (clk : Nat) (w : World) (T : Stage w w rb sm ww C es clk (x0 :: x1 :: x2 :: x3 :: xr))
    (hsz : ∀ x ∈ (x0 :: x1 :: x2 :: x3 :: xr), x.size ≤ 1000000) (hfit : fits 8 (x0 :: x1 :: x2 :: x3 :: xr) = true) (hcap : xr.length + 4 ≤ cap) (hC : C[12]? = some hv) (hB : B ≤ w.heap.size) (hww : ww < w.heap.size)
    (hown : w.ownsRow B 72 5 hv bs.length (bs.flatMap hostCells)) (hpr : ∀ b ∈ bs, ProtoAt B w b) (hbn : ∀ b ∈ bs, b.1.name.size ≤ 140737488351240) (hn : bs.length ≤ 16) :
    Calls Tryz.prog 39 #[.pointer (some ⟨rb, 0, none⟩), .slice (some ⟨ww, 0, none⟩) (xr.length + 4) cap] w fun e w' =>
      RowH w w' B rb sm hv C es clk e (hostSpec x1 x2 x3 (hostRest xr { name := x1, cert := x2, key := x3, staple := ByteArray.empty, protocols := [] }) (bs.map Prod.fst)) := by
  have g1 := T.words 1 x1 rfl
  have s1 : x1.size ≤ 140737488351240 := Nat.le_trans (hsz x1 (by simp)) (by decide)
  have s2 : x2.size ≤ 140737488351240 := Nat.le_trans (hsz x2 (by simp)) (by decide)
  have s3 : x3.size ≤ 140737488351240 := Nat.le_trans (hsz x3 (by simp)) (by decide)
  have HT := Lib.hid T
  have HO := Lib.hid (And.intro hown (And.intro hC (And.intro hpr hbn)))
  have HF := Lib.hid (And.intro hfit hsz)
  have h8 := T.L.size
  clear T hown hC hpr hbn hfit hsz
  obtain ⟨RH, hRH⟩ : ∃ RH : Ending → World → Prop, (fun e w' => RowH w w' B rb sm hv C es clk e (hostSpec x1 x2 x3 (hostRest xr { name := x1, cert := x2, key := x3, staple := ByteArray.empty, protocols := [] }) (bs.map Prod.fst))) = RH := ⟨_, rfl⟩
  have HR := Lib.hid hRH
  rw [hRH]
  clear hRH
  refine calls_of_wpE Tryz.func39 rfl ?_
  generalize hBP : bodyPostM Fence.wide 0 Tryz.prog _ RH = BP
  have HBP : ∀ (ch : List PanicEntry) (a : Act) (W : World), a.defers = [] → RH (.panicked ch) W → BP (.panic ch) a W := by
    rintro ch ⟨T, D⟩ W rfl h
    rw [← hBP]
    exact h
  have HBPM : ∀ (ch : List PanicEntry) (a : Act) (W : World), MarkOK w.heap.size a.defers W → RH (.panicked ch) W → BP (.panic ch) a W := by
    rintro ch a W hm h
    rw [← hBP]
    refine leaves_mark hm (by intro e; cases e) fun W' hs => ?_
    show RH _ _
    rw [← HR.out] at h ⊢
    exact h.shut hs
  have HBPN : ∀ (a : Act) (W : World), MarkOK w.heap.size a.defers W → RH (.returned (.tuple #[])) W → BP .normal a W := by
    rintro a W hm h
    rw [← hBP]
    refine leaves_mark hm (by intro e; cases e) fun W' hs => ⟨_, results_none rfl _ _ _, ?_⟩
    rw [← HR.out] at h ⊢
    exact h.shut hs
  clear hBP
  simp only [Tryz.ntmps39, List.size_toArray, List.length_cons, List.length_nil, Nat.reduceAdd, Nat.reduceSub, Array.replicate_succ, Array.replicate_zero, List.push_toArray, List.append_toArray, List.nil_append, List.cons_append]
  refine wpE_seq (wpE_of ?_)
  have d1 : (1 : Int) < (xr.length : Int) + 4 := by omega
  go_wp2_with fail
  refine (pattern_calls x1 s1 _).mono ?_
  rintro e w1 ⟨B1, he⟩
  have T1 := HT.out.below B1
  cases hv1 : patV x1 with
  | false =>
    rw [hv1] at he
    obtain rfl := he
    have hr : RH (.panicked [{ v := .iface 29 (.int .i64 223), recovered := false }]) w1 := by
      rw [← HR.out]
      exact ⟨same3 T1.S, by unfold hostSpec; rw [hv1]; rfl⟩
    exact HBP _ _ _ rfl hr
  | true =>
    rw [hv1] at he
    obtain rfl := he
    have hbox : hostBox { name := x1, cert := ByteArray.empty, key := ByteArray.empty, staple := ByteArray.empty, protocols := [] } (.slice none 0 0) = #[.string x1, .string ⟨#[]⟩, .string ⟨#[]⟩, .string ⟨#[]⟩, .slice none 0 0] := rfl
    have TA := T1.below ((Below.refl w1.heap.size w1).alloc (Nat.le_refl _) (.cells #[.string x1, .string ⟨#[]⟩, .string ⟨#[]⟩, .string ⟨#[]⟩, .slice none 0 0] 72))
    have QA : Blk (w1.alloc (.cells #[.string x1, .string ⟨#[]⟩, .string ⟨#[]⟩, .string ⟨#[]⟩, .slice none 0 0] 72)) w1.heap.size #[.string x1, .string ⟨#[]⟩, .string ⟨#[]⟩, .string ⟨#[]⟩, .slice none 0 0] 72 := Blk.new _ _ _
    have e1 : ¬ w1.heap.size = rb := fun e => by have := T1.rlt; omega
    have e2 : ¬ w1.heap.size = sm := fun e => by have := T1.mlt; omega
    have e3 : ¬ w1.heap.size = ww := fun e => by have := T1.wlt; omega
    have hw1 := B1.size
    have l1 : rb < w1.heap.size := T1.rlt
    have l2 : sm < w1.heap.size := T1.mlt
    have l3 : ww < w1.heap.size := T1.wlt
    clear T1 hbox
    dsimp only [nameR_ok]
    go_wp2_with fail
    obtain ⟨W1, hW1⟩ : ∃ W, w1.alloc (.cells #[.string x1, .string ⟨#[]⟩, .string ⟨#[]⟩, .string ⟨#[]⟩, .slice none 0 0] 72) = W := ⟨_, rfl⟩
    rw [hW1] at TA QA
    rw [hW1]
    obtain ⟨hb, hhb⟩ : ∃ hb, w1.heap.size = hb := ⟨_, rfl⟩
    rw [hhb] at QA e1 e2 e3 hw1 l1 l2 l3
    rw [hhb]
    clear hW1
    refine wpE_seq (wpE_of ?_)
    have d2 : (2 : Int) < (xr.length : Int) + 4 := by omega
    have k2 := TA.words 2 x2 rfl
    have HF2 := Lib.hid (file_calls x2 s2 _ TA.L)
    have HA := Lib.hid (And.intro TA QA)
    clear TA QA
    go_wp2_with fail
    refine HF2.out.mono ?_
    rintro e w2 ⟨B2, he⟩
    have he : e = match nameR (ofV fileL x2) x2 with | .ok v => .returned v | .error k => .panicked [{ v := .iface 29 (.int .i64 k), recovered := false }] := he
    obtain ⟨TA, QA⟩ := HA.out
    have T2 := TA.below B2
    have Q2 := QA.below B2 QA.lt
    clear TA QA HA HF2
    cases hv2 : ofV fileL x2 with
    | false =>
      rw [hv2] at he
      obtain rfl := he
      have hr : RH (.panicked [{ v := .iface 29 (.int .i64 223), recovered := false }]) w2 := by
        rw [← HR.out]
        exact ⟨same3 T2.S, by unfold hostSpec; rw [hv1, hv2]; rfl⟩
      exact HBP _ _ _ rfl hr
    | true =>
      rw [hv2] at he
      obtain rfl := he
      have f1 := Q2.free 1
      have c1 := Q2.cell 1
      have T3 := T2.other hb 1 (.string x2) h8 hw1 e1 e2 e3
      have Q3 := Q2.set 1 (.string x2)
      have HA := Lib.hid (And.intro T3 Q3)
      clear T2 Q2 T3 Q3
      dsimp only [nameR_ok]
      go_wp2_with fail
      obtain ⟨T3, Q3⟩ := HA.out
      obtain ⟨W3, hW3⟩ : ∃ W, w2.setCell ⟨hb, 1, none⟩ (.string x2) = W := ⟨_, rfl⟩
      rw [hW3] at T3 Q3
      rw [hW3]
      clear hW3 HA c1 f1
      refine wpE_seq (wpE_of ?_)
      have d3 : (3 : Int) < (xr.length : Int) + 4 := by omega
      have k3 := T3.words 3 x3 rfl
      have HF3 := Lib.hid (file_calls x3 s3 _ T3.L)
      have HA := Lib.hid (And.intro T3 Q3)
      clear T3 Q3
      go_wp2_with fail
      refine HF3.out.mono ?_
      rintro e w4 ⟨B4, he⟩
      have he : e = match nameR (ofV fileL x3) x3 with | .ok v => .returned v | .error k => .panicked [{ v := .iface 29 (.int .i64 k), recovered := false }] := he
      obtain ⟨TA, QA⟩ := HA.out
      have T4 := TA.below B4
      have Q4 := QA.below B4 QA.lt
      clear TA QA HA HF3
      cases hv3 : ofV fileL x3 with
      | false =>
        rw [hv3] at he
        obtain rfl := he
        have hr : RH (.panicked [{ v := .iface 29 (.int .i64 223), recovered := false }]) w4 := by
          rw [← HR.out]
          exact ⟨same3 T4.S, by unfold hostSpec; rw [hv1, hv2, hv3]; rfl⟩
        exact HBP _ _ _ rfl hr
      | true =>
        rw [hv3] at he
        obtain rfl := he
        have f2 := Q4.free 2
        have c2 := Q4.cell 2
        have T5 := T4.other hb 2 (.string x3) h8 hw1 e1 e2 e3
        have Q5 := Q4.set 2 (.string x3)
        have HA := Lib.hid (And.intro T5 Q5)
        clear T4 Q4 T5 Q5
        dsimp only [nameR_ok]
        go_wp2_with fail
        obtain ⟨T5, Q5⟩ := HA.out
        obtain ⟨W5, hW5⟩ : ∃ W, w4.setCell ⟨hb, 2, none⟩ (.string x3) = W := ⟨_, rfl⟩
        rw [hW5] at T5 Q5
        rw [hW5]
        clear hW5 HA c2 f2
        have Q5 : Blk W5 hb (hostBox { name := x1, cert := x2, key := x3, staple := ByteArray.empty, protocols := [] } (.slice none 0 0)) 72 := Q5
        obtain ⟨R0, hR0⟩ : ∃ R, hostRest xr { name := x1, cert := x2, key := x3, staple := ByteArray.empty, protocols := [] } = R := ⟨_, rfl⟩
        have hpan : ∀ (k : Int) (W : World), Stage w W rb sm ww C es clk (x0 :: x1 :: x2 :: x3 :: xr) → R0 = .error k → RH (.panicked [{ v := .iface 29 (.int .i64 k), recovered := false }]) W := by
          intro k W hT hk
          rw [← HR.out]
          exact ⟨same3 hT.S, by unfold hostSpec; rw [hv1, hv2, hv3, hR0, hk]; rfl⟩
        have HPAN := Lib.hid hpan
        clear hpan
        refine wpE_seq (wpE_mono (Q := Exit.then (DoneH w rb sm ww hb C es clk (x0 :: x1 :: x2 :: x3 :: xr) x1 R0) BP) ?main ?tail)
        case tail =>
          rintro e a W hq
          cases e with
          | normal =>
            -- tail
            clear T5 Q5 d1 d2 d3
            obtain ⟨T, D⟩ := a
            obtain ⟨h, pv, v, ⟨hT, t0, t4, t5⟩, hR, hX⟩ := hq
            obtain ⟨v0, v1, v2, v3, v4, v5, v6, v7, v8, v9, v10, v11, v12, v13, v14, v15, v16, v17, v18, v19, v20, v21, v22, v23, v24, v25, v26, v27, v28, v29, v30, v31, v32, v33, v34, v35, v36, v37, v38, v39, v40, v41, v42, v43, v44, v45, v46, v47, v48, v49, v50, v51, v52, v53, v54, v55, v56, v57, v58, v59, v60, v61, rfl⟩ := arr62 T hT
            obtain rfl : v0 = .pointer (some ⟨rb, 0, none⟩) := by simpa using t0
            obtain rfl : v4 = .pointer (some ⟨hb, 0, none⟩) := by simpa using t4
            clear hT t0 t4 t5
            refine wpE_mono (Q := TailQ BP D w.heap.size RH) (wpE_of ?_) (TailQ.imp fun ch a W h => HBPM ch a W (h.1 ▸ h.2.1) h.2.2)
            have hsp : hostSpec x1 x2 x3 (hostRest xr { name := x1, cert := x2, key := x3, staple := ByteArray.empty, protocols := [] }) (bs.map Prod.fst) = match putE bs ((h, pv) : HostV) (fun y => decide (lowB y.1.name = lowB h.name)) id with | .ok r => .ok (r.map Prod.fst) | .error k => .error k := by
              unfold hostSpec
              rw [hv1, hv2, hv3, hR0, hR.out.1]
              simp only [nameE, bindE, if_true]
              have hpm := putE_map Prod.fst bs ((h, pv) : HostV) (fun x => decide (lowB x.name = lowB h.name))
              dsimp only at hpm
              rw [hpm]
              cases putE bs ((h, pv) : HostV) (fun y => decide (lowB y.1.name = lowB h.name)) id <;> rfl
            obtain ⟨T6, Q6, P6, M6⟩ := hX.out
            have hs1 : h.name.size ≤ 140737488351240 := by rw [hR.out.2]; exact s1
            have hpv1 : pv.oneCell' = true := by rcases own_form P6 with ⟨e, _⟩ | ⟨g, cap, e, _⟩ <;> rw [e] <;> rfl
            have own5 := HT.out.own T6.S HO.out.1 (by decide)
            have T6d := T6.drew
            have Q6d := Q6.drew
            have r13 : W.cell? ⟨rb, 12, none⟩ = some hv := (T6.R.cell 12).trans HO.out.2.1
            have b0 : W.cell? ⟨hb, 0, none⟩ = some (.string h.name) := Q6.cell 0
            have b1 : W.cell? ⟨hb, 1, none⟩ = some (.string h.cert) := Q6.cell 1
            have b2 : W.cell? ⟨hb, 2, none⟩ = some (.string h.key) := Q6.cell 2
            have b3 : W.cell? ⟨hb, 3, none⟩ = some (.string h.staple) := Q6.cell 3
            have b4 : W.cell? ⟨hb, 4, none⟩ = some pv := Q6.cell 4
            have hblt : hb < W.heap.size := Q6.lt
            have hsz5 : w.heap.size ≤ W.heap.size := T6.S.size
            have hput := putH_calls B hv bs ((h, pv) : HostV) 64 ⟨hb, 0, none⟩ (fun y => decide (lowB y.1.name = lowB h.name)) W.drew hpv1 hn (by simp; omega) (own_below own5 ((Below.refl W.heap.size W).drew)) (enters_of Tryz.func64 (by kernel_rfl) rfl)
              (fun V b hV hm => host1_calls b hb h.name V (HO.out.2.2.2 b hm) hs1 (Nat.lt_of_lt_of_le hblt hV.size) ((hV.cell (p := ⟨hb, 0, none⟩) hblt).trans b0))
            have HP := Lib.hid hput
            have hcell : ∀ g, hv.ownBlock = some g → ∃ c fz, w.heap[g]? = some (.cells c 72 fz) := by
              intro g hg
              rcases HO.out.1.2 with ⟨h0, _⟩ | ⟨g', cap', cur, h0, _, hh, _⟩
              · rw [h0] at hg; cases hg
              · rw [h0] at hg
                simp only [Value.ownBlock, Option.some.injEq] at hg
                subst hg
                exact ⟨_, _, hh⟩
            have no1 : ∀ g, hv.ownBlock = some g → g ≠ rb ∧ g ≠ sm ∧ g ≠ hb ∧ g < W.heap.size := by
              intro g hg
              obtain ⟨c, fz, hh⟩ := hcell g hg
              have hlt := (Array.getElem?_eq_some_iff.1 hh).1
              refine ⟨fun e => ?_, fun e => ?_, by omega, by omega⟩
              · subst e
                have := (show w.heap[g]? = _ from HT.out.R).symm.trans hh
                simp only [Option.some.injEq, Obj.cells.injEq] at this
                exact absurd this.2.1 (by decide)
              · subst e
                exact absurd (HT.out.M.symm.trans hh) (by simp)
            have hkind : ∀ b, (b = rb ∨ hv.ownBlock = some b) → ∃ c T fz, W.heap[b]? = some (.cells c T fz) ∧ T ≠ 9 := by
              rintro b (rfl | hg)
              · exact ⟨_, _, _, T6.R, by decide⟩
              · obtain ⟨c, fz, hh⟩ := hcell b hg
                exact ⟨_, _, _, (T6.S.block b (Array.getElem?_eq_some_iff.1 hh).1 (by rintro (e | e); exact (no1 b hg).1 e; exact (no1 b hg).2.1 e)).trans hh, by decide⟩
            have hmk : ∀ V, Same (fun b => b = rb ∨ hv.ownBlock = some b) W V → MarkOK w.heap.size D V := fun V hV => M6.same hV fun b hb hd => by
              obtain ⟨c, T, fz, hh, _⟩ := hkind b hb
              exact absurd (hh.symm.trans hd) (by simp)
            have hprW : ∀ b ∈ bs ++ [((h, pv) : HostV)], ProtoAt B W b := by
              intro b hb
              rcases List.mem_append.1 hb with hb | hb
              · exact HT.out.own T6.S (HO.out.2.2.1 b hb) (by decide)
              · obtain rfl := List.mem_singleton.1 hb
                exact own_base P6 hB
            have hprV : ∀ V, Same (fun b => b = rb ∨ hv.ownBlock = some b) W V → ∀ b ∈ bs ++ [((h, pv) : HostV)], ProtoAt B V b := fun V hV b hb =>
              own_same (hprW b hb) hV fun g c fz hg hS => by
                obtain ⟨c', T, fz', hh, hT⟩ := hkind g hS
                rw [hh] at hg
                simp only [Option.some.injEq, Obj.cells.injEq] at hg
                exact hT hg.2.1
            have HG := Lib.hid no1
            have H7 := Lib.hid (And.intro T6d (And.intro hmk hprV))
            have HSP := Lib.hid hsp
            have hrlt := T6.rlt
            have hmlt := T6.mlt
            have e1' : ¬ rb = hb := fun e => e1 e.symm
            clear T6 Q6 T6d Q6d hput no1 own5 P6 M6 hsp hprW hmk hprV hkind hcell hX hR hR0 HPAN HBP
            have hmf : ∀ (fn : Fn) (first cap : Array Value) (w : World), (Instr.makeFunc fn first cap).run Tryz.prog w = .ok (.func fn first cap) w := fun _ _ _ _ => rfl
            unfold hostAgg at HP
            go_wp2_with fail
            cases hpe : putE bs ((h, pv) : HostV) (fun y => decide (lowB y.1.name = lowB h.name)) id with
            | error k =>
              rw [hpe] at HP
              have herr : ∀ w7, Below W.drew.heap.size W.drew w7 → ∀ a : Act, a.defers = D → TailQ BP D w.heap.size RH (.panic [{ v := .iface 29 (.int .i64 k), recovered := false }]) a w7 := by
                intro w7 B7 a ha
                refine ⟨ha, H7.out.2.1 w7 ((Same.refl _ W).drew.thru (same_below (S := fun _ => False) B7) (fun b _ e => e.elim)), ?_⟩
                rw [← HR.out]
                refine ⟨same3 (H7.out.1.below B7).S, ?_⟩
                rw [HSP.out, hpe]
              have HERR := Lib.hid herr
              clear herr
              refine wp_region_any (by kernel_rfl) ?_
              try (change wpAny _ _ _ _ _ _ _ (World.drew _))
              refine wpAny_take (i := 0) (v := ?v0_301) rfl (by kernel_rfl) (by kernel_rfl) (by kernel_rfl) (fun _ _ _ h => h) (Or.inl ⟨by kernel_rfl, ?y0_301⟩) ?r0_301
              case y0_301 =>
                intro w
                go_simp
                with_reducible rfl
              refine wpAny_take (i := 1) (v := ?v1_302) rfl (by kernel_rfl) (by kernel_rfl) (by kernel_rfl) (fun _ _ _ h => h) (Or.inl ⟨by kernel_rfl, ?y1_302⟩) ?r1_302
              case y1_302 =>
                intro w
                go_simp
                with_reducible rfl
              refine wpAny_take (i := 2) (v := ?v2_303) rfl (by kernel_rfl) (by kernel_rfl) (by kernel_rfl) (fun _ _ _ h => h) (Or.inl ⟨by kernel_rfl, ?y2_303⟩) ?r2_303
              case y2_303 =>
                intro w
                go_simp
                with_reducible rfl
              refine wpAny_take (i := 3) (v := ?v3_304) rfl (by kernel_rfl) (by kernel_rfl) (by kernel_rfl) (fun _ _ _ h => h) (Or.inl ⟨by kernel_rfl, ?y3_304⟩) ?r3_304
              case y3_304 =>
                intro w
                go_simp
                with_reducible rfl
              refine wpAny_take (i := 4) (v := ?v4_305) rfl (by kernel_rfl) (by kernel_rfl) (by kernel_rfl) (fun _ _ _ h => h) (Or.inl ⟨by kernel_rfl, ?y4_305⟩) ?r4_305
              case y4_305 =>
                intro w
                go_simp
                with_reducible rfl
              refine wpAny_take (i := 7) (v := ?v7_306) rfl (by kernel_rfl) (by kernel_rfl) (by kernel_rfl) (fun _ _ _ h => h) (Or.inl ⟨by kernel_rfl, ?y7_306⟩) ?r7_306
              case y7_306 =>
                intro w
                go_simp
                with_reducible rfl
              refine wpAny_ready (rs := [5, 6]) (by kernel_rfl) (by simp) ?_
              refine AllReady.cons rfl (fun K hK => ?_) ?_
              · go_simp
                refine hK _ _ ?_
                refine wpAny_ready (rs := [6]) (by kernel_rfl) (by simp) ?_
                refine AllReady.cons rfl (fun K hK => ?_) AllReady.nil
                go_simp
                refine hK _ _ ?_
                refine wpAny_ready (rs := [8]) (by kernel_rfl) (by simp) ?_
                refine AllReady.cons rfl (fun K hK => ?_) AllReady.nil
                go_simp
                refine HP.out.mono ?_
                rintro e w7 ⟨rfl, B7⟩
                exact HERR.out w7 B7 _ rfl
              refine AllReady.cons rfl (fun K hK => ?_) AllReady.nil
              go_simp
              refine hK _ _ ?_
              refine wpAny_ready (rs := [5]) (by kernel_rfl) (by simp) ?_
              refine AllReady.cons rfl (fun K hK => ?_) AllReady.nil
              go_simp
              refine hK _ _ ?_
              refine wpAny_ready (rs := [8]) (by kernel_rfl) (by simp) ?_
              refine AllReady.cons rfl (fun K hK => ?_) AllReady.nil
              go_simp
              refine HP.out.mono ?_
              rintro e w7 ⟨rfl, B7⟩
              exact HERR.out w7 B7 _ rfl
            | ok l =>
              rw [hpe] at HP
              have hll : l = bs ++ [((h, pv) : HostV)] := by
                unfold putE at hpe
                split at hpe
                · cases hpe
                · split at hpe
                  · cases hpe
                  · cases hpe; rfl
              have hl0 : 0 < l.length := by rw [hll]; simp
              have HLL := Lib.hid hll
              clear hll
              have HQ := Lib.hid (HP.out.mono (R' := fun e w' => ∃ g cap, e = .returned (.slice (some ⟨g, 0, none⟩) l.length cap) ∧ w'.ownsRow B 72 5 (.slice (some ⟨g, 0, none⟩) l.length cap) l.length (l.flatMap hostCells) ∧ Same (fun b => hv.ownBlock = some b) W.drew w') (by
                rintro e w' ⟨v', rfl, ho, hs⟩
                rcases own_form ho with ⟨_, h0⟩ | ⟨g, cap, rfl, _⟩
                · omega
                · exact ⟨g, cap, rfl, ho, hs⟩))
              have hend : ∀ g cap' w6, Blk w6 rb C 59 → w6.ownsRow B 72 5 (.slice (some ⟨g, 0, none⟩) l.length cap') l.length (l.flatMap hostCells) → Same (fun b => hv.ownBlock = some b) W.drew w6 →
                  MarkOK w.heap.size D (w6.setCell ⟨rb, 12, none⟩ (.slice (some ⟨g, 0, none⟩) l.length cap')) ∧ RH (.returned (.tuple #[])) (w6.setCell ⟨rb, 12, none⟩ (.slice (some ⟨g, 0, none⟩) l.length cap')) := by
                intro g cap' w6 hr6 ho6 hs6
                have hsame : Same (fun b => b = rb ∨ hv.ownBlock = some b) W (w6.setCell ⟨rb, 12, none⟩ (.slice (some ⟨g, 0, none⟩) l.length cap')) :=
                  ((Same.refl _ W).drew.trans (hs6.mono fun b _ h => .inr h)).set _ _ (fun _ => .inl rfl)
                have hrow : Same (fun b => b = rb ∨ b = sm ∨ hv.ownBlock = some b) w (w6.setCell ⟨rb, 12, none⟩ (.slice (some ⟨g, 0, none⟩) l.length cap')) :=
                  ((same3 H7.out.1.S).trans (hs6.mono fun b _ h => .inr (.inr h))).set _ _ (fun _ => .inl rfl)
                refine ⟨H7.out.2.1 _ hsame, ?_⟩
                rw [← HR.out]
                refine ⟨hrow, ?_⟩
                rw [HSP.out, hpe]
                refine ⟨rfl, _, l, rfl, fun b hb => H7.out.2.2 _ hsame b (HLL.out ▸ hb), hr6.set 12 _, ?_, ?_⟩
                · exact (Below.heap_setCell w6 _ _ sm (by simpa using H7.out.1.mne)).trans ((hs6.block sm hmlt (fun h => (HG.out _ h).2.1 rfl)).trans H7.out.1.M)
                · exact own_same ho6 ((Same.refl (fun b => b = rb) w6).set _ _ (fun _ => rfl)) (fun g' c fz hg e => by
                    subst e
                    have := (show w6.heap[g']? = _ from hr6).symm.trans hg
                    simp only [Option.some.injEq, Obj.cells.injEq] at this
                    exact absurd this.2.1 (by decide))
              have HEND := Lib.hid hend
              clear hend
              refine wp_region_any (by kernel_rfl) ?_
              try (change wpAny _ _ _ _ _ _ _ (World.drew _))
              refine wpAny_take (i := 0) (v := ?v0_307) rfl (by kernel_rfl) (by kernel_rfl) (by kernel_rfl) (fun _ _ _ h => h) (Or.inl ⟨by kernel_rfl, ?y0_307⟩) ?r0_307
              case y0_307 =>
                intro w
                go_simp
                with_reducible rfl
              refine wpAny_take (i := 1) (v := ?v1_308) rfl (by kernel_rfl) (by kernel_rfl) (by kernel_rfl) (fun _ _ _ h => h) (Or.inl ⟨by kernel_rfl, ?y1_308⟩) ?r1_308
              case y1_308 =>
                intro w
                go_simp
                with_reducible rfl
              refine wpAny_take (i := 2) (v := ?v2_309) rfl (by kernel_rfl) (by kernel_rfl) (by kernel_rfl) (fun _ _ _ h => h) (Or.inl ⟨by kernel_rfl, ?y2_309⟩) ?r2_309
              case y2_309 =>
                intro w
                go_simp
                with_reducible rfl
              refine wpAny_take (i := 3) (v := ?v3_310) rfl (by kernel_rfl) (by kernel_rfl) (by kernel_rfl) (fun _ _ _ h => h) (Or.inl ⟨by kernel_rfl, ?y3_310⟩) ?r3_310
              case y3_310 =>
                intro w
                go_simp
                with_reducible rfl
              refine wpAny_take (i := 4) (v := ?v4_311) rfl (by kernel_rfl) (by kernel_rfl) (by kernel_rfl) (fun _ _ _ h => h) (Or.inl ⟨by kernel_rfl, ?y4_311⟩) ?r4_311
              case y4_311 =>
                intro w
                go_simp
                with_reducible rfl
              refine wpAny_take (i := 7) (v := ?v7_312) rfl (by kernel_rfl) (by kernel_rfl) (by kernel_rfl) (fun _ _ _ h => h) (Or.inl ⟨by kernel_rfl, ?y7_312⟩) ?r7_312
              case y7_312 =>
                intro w
                go_simp
                with_reducible rfl
              refine wpAny_ready (rs := [5, 6]) (by kernel_rfl) (by simp) ?_
              refine AllReady.cons rfl (fun K hK => ?_) ?_
              · go_simp
                refine hK _ _ ?_
                refine wpAny_ready (rs := [6]) (by kernel_rfl) (by simp) ?_
                refine AllReady.cons rfl (fun K hK => ?_) AllReady.nil
                go_simp
                refine hK _ _ ?_
                refine wpAny_ready (rs := [8]) (by kernel_rfl) (by simp) ?_
                refine AllReady.cons rfl (fun K hK => ?_) AllReady.nil
                go_simp
                refine HQ.out.mono ?_
                rintro e w7 ⟨g, cap', rfl, ho7, hs7⟩
                have r7 := H7.out.1.R.same (hs7.block rb hrlt (fun h => (HG.out _ h).1 rfl))
                have c13 : w7.cell? ⟨rb, 12, none⟩ = some hv := hs7.cell (p := ⟨rb, 12, none⟩) hrlt (fun h => (HG.out _ h).1 rfl) r13
                have f13 := r7.free 12
                have HE := Lib.hid (And.intro r7 (And.intro ho7 hs7))
                clear r7 ho7 hs7
                dsimp only
                refine hK _ _ ?_
                refine wpAny_take (i := 9) (v := ?v9_313) rfl (by kernel_rfl) (by kernel_rfl) (by kernel_rfl) (fun _ _ _ h => h) (Or.inl ⟨by kernel_rfl, ?y9_313⟩) ?r9_313
                case y9_313 =>
                  intro w
                  go_simp
                  with_reducible rfl
                refine wpAny_take (i := 10) (v := ?v10_314) rfl (by kernel_rfl) (by kernel_rfl) (by kernel_rfl) (fun _ _ _ h => h) (Or.inl ⟨by kernel_rfl, ?y10_314⟩) ?r10_314
                case y10_314 =>
                  intro w
                  go_simp
                  with_reducible rfl
                refine wpAny_take (i := 11) (v := ?v11_315) rfl (by kernel_rfl) (by kernel_rfl) (by kernel_rfl) (fun _ _ _ h => h) (Or.inl ⟨by kernel_rfl, ?y11_315⟩) ?r11_315
                case y11_315 =>
                  intro w
                  go_simp
                  with_reducible rfl
                refine wpAny_ready (rs := [12]) (by kernel_rfl) (by simp) ?_
                refine AllReady.cons rfl (fun K hK => ?_) AllReady.nil
                go_simp
                refine hK _ _ ?_
                refine wpAny_done (by kernel_rfl) ?_ _
                have hE := HEND.out g cap' w7 HE.out.1 HE.out.2.1 HE.out.2.2
                exact HBPN _ _ hE.1 hE.2
              refine AllReady.cons rfl (fun K hK => ?_) AllReady.nil
              go_simp
              refine hK _ _ ?_
              refine wpAny_ready (rs := [5]) (by kernel_rfl) (by simp) ?_
              refine AllReady.cons rfl (fun K hK => ?_) AllReady.nil
              go_simp
              refine hK _ _ ?_
              refine wpAny_ready (rs := [8]) (by kernel_rfl) (by simp) ?_
              refine AllReady.cons rfl (fun K hK => ?_) AllReady.nil
              go_simp
              refine HQ.out.mono ?_
              rintro e w7 ⟨g, cap', rfl, ho7, hs7⟩
              have r7 := H7.out.1.R.same (hs7.block rb hrlt (fun h => (HG.out _ h).1 rfl))
              have c13 : w7.cell? ⟨rb, 12, none⟩ = some hv := hs7.cell (p := ⟨rb, 12, none⟩) hrlt (fun h => (HG.out _ h).1 rfl) r13
              have f13 := r7.free 12
              have HE := Lib.hid (And.intro r7 (And.intro ho7 hs7))
              clear r7 ho7 hs7
              dsimp only
              refine hK _ _ ?_
              refine wpAny_take (i := 9) (v := ?v9_316) rfl (by kernel_rfl) (by kernel_rfl) (by kernel_rfl) (fun _ _ _ h => h) (Or.inl ⟨by kernel_rfl, ?y9_316⟩) ?r9_316
              case y9_316 =>
                intro w
                go_simp
                with_reducible rfl
              refine wpAny_take (i := 10) (v := ?v10_317) rfl (by kernel_rfl) (by kernel_rfl) (by kernel_rfl) (fun _ _ _ h => h) (Or.inl ⟨by kernel_rfl, ?y10_317⟩) ?r10_317
              case y10_317 =>
                intro w
                go_simp
                with_reducible rfl
              refine wpAny_take (i := 11) (v := ?v11_318) rfl (by kernel_rfl) (by kernel_rfl) (by kernel_rfl) (fun _ _ _ h => h) (Or.inl ⟨by kernel_rfl, ?y11_318⟩) ?r11_318
              case y11_318 =>
                intro w
                go_simp
                with_reducible rfl
              refine wpAny_ready (rs := [12]) (by kernel_rfl) (by simp) ?_
              refine AllReady.cons rfl (fun K hK => ?_) AllReady.nil
              go_simp
              refine hK _ _ ?_
              refine wpAny_done (by kernel_rfl) ?_ _
              have hE := HEND.out g cap' w7 HE.out.1 HE.out.2.1 HE.out.2.2
              exact HBPN _ _ hE.1 hE.2
            -- end of tail
          | panic ch => exact hq
          | ret => exact hq
          | exit id => exact hq
          | goto l => exact hq
          | outgrown => exact hq
        refine wpE_seq (wpE_mono (Q := Exit.then (LoopH w rb sm ww hb C es clk (x0 :: x1 :: x2 :: x3 :: xr) xr x1 R0) BP) (wpE_of ?first) ?loop)
        case first =>
          have d4 : (4 : Int) ≤ (xr.length : Int) + 4 := by omega
          have d5 : (xr.length : Int) + 4 ≤ cap := by omega
          have HL := Lib.hid (show LeftH xr xr xr { name := x1, cert := x2, key := x3, staple := ByteArray.empty, protocols := [] } R0 x1 0 ∧ Hid (BoxH w W5 rb sm ww hb C es clk (x0 :: x1 :: x2 :: x3 :: xr) { name := x1, cert := x2, key := x3, staple := ByteArray.empty, protocols := [] } (.slice none 0 0) []) from
            ⟨⟨rfl, restOK_fits _ _ _ _ _ HF.out.1, hR0, rfl⟩, Lib.hid ⟨T5, Q5, World.ownsRow_nil _ _ _ _, .inl rfl⟩⟩)
          clear T5 Q5 hR0
          go_wp2_with fail
          · exact ⟨xr, 0, { name := x1, cert := x2, key := x3, staple := ByteArray.empty, protocols := [] }, .slice none 0 0, _, _, ⟨rfl, rfl, rfl, rfl⟩, fun _ => by omega, HL.out.1, fun _ => ⟨rfl, rfl, rfl⟩, HL.out.2⟩
          · exact ⟨xr, 0, { name := x1, cert := x2, key := x3, staple := ByteArray.empty, protocols := [] }, .slice none 0 0, _, _, ⟨rfl, rfl, rfl, rfl⟩, fun _ => ⟨rfl, by omega⟩, HL.out.1, fun _ => ⟨rfl, rfl, rfl⟩, HL.out.2⟩
        rintro e a W hq
        cases e with
        | panic ch => exact hq
        | ret => exact hq
        | exit id => exact hq
        | goto l => exact hq
        | outgrown => exact hq
        | normal =>
          refine wpE_block (wpE_loop (LoopH w rb sm ww hb C es clk (x0 :: x1 :: x2 :: x3 :: xr) xr x1 R0) leftH hq ?_)
          clear hq a W T5 Q5 hR0 d1 d2 d3
          rintro ⟨T, D⟩ W ⟨yr, j, h, pv, A, c, ⟨hT, t0, t4, t5⟩, hA, hL, hD, hX⟩
          obtain ⟨v0, v1, v2, v3, v4, v5, v6, v7, v8, v9, v10, v11, v12, v13, v14, v15, v16, v17, v18, v19, v20, v21, v22, v23, v24, v25, v26, v27, v28, v29, v30, v31, v32, v33, v34, v35, v36, v37, v38, v39, v40, v41, v42, v43, v44, v45, v46, v47, v48, v49, v50, v51, v52, v53, v54, v55, v56, v57, v58, v59, v60, v61, rfl⟩ := arr62 T hT
          obtain rfl : v0 = .pointer (some ⟨rb, 0, none⟩) := by simpa using t0
          obtain rfl : v4 = .pointer (some ⟨hb, 0, none⟩) := by simpa using t4
          obtain rfl : v5 = .slice A yr.length c := by simpa using t5
          clear hT t0 t4 t5
          generalize hmu : leftH { tmps := _, defers := _ } W = m0
          replace hmu := Lib.hid (show m0 = yr.length by rw [← hmu]; rfl)
          refine wpE_seq (wpE_of ?_)
          match yr, hA, hL, hD, hmu with
          | [], hA, hL, hD, hmu =>
            have hR : R0 = .ok h := by rw [← hL.rest]; rfl
            have HE := Lib.hid (And.intro hR (And.intro hL.name hX))
            have ez : decide (0 < (([] : List ByteArray).length : Int)) = false := rfl
            clear hL hX hD hA hR
            go_wp2
            exact ⟨h, pv, _, ⟨rfl, rfl, rfl, rfl⟩, Lib.hid ⟨HE.out.1, HE.out.2.1⟩, HE.out.2.2⟩
          | [y], hA, hL, hD, hmu => exact hL.ok.elim
          | k :: x :: yr, hA, hL, hD, hmu =>
            obtain ⟨hA, hc⟩ := hA (by simp)
            obtain ⟨rfl, rfl, hpr0⟩ := hD (by simp)
            subst hA
            simp only [List.length_cons] at hc
            have HL := Lib.hid (And.intro hL (And.intro hX hpr0))
            have ez : decide (0 < ((k :: x :: yr).length : Int)) = true := by simp; omega
            clear hL hX hpr0
            go_wp2
            refine wpE_seq (wpE_mono (Q := Exit.then (MidH w rb sm ww hb C es clk (x0 :: x1 :: x2 :: x3 :: xr) xr x1 R0 yr.length) (Exit.inBlock 0 (Exit.then (DoneH w rb sm ww hb C es clk (x0 :: x1 :: x2 :: x3 :: xr) x1 R0) BP))) ?pair ?next)
            case next =>
              rintro e a W hq
              cases e with
              | panic ch => exact hq
              | ret => exact hq
              | exit id => exact hq
              | goto l => exact hq
              | outgrown => exact hq
              | normal =>
                clear HL ez hA
                obtain ⟨T, D⟩ := a
                obtain ⟨k', x', yr', j', h', pv', c', hn', ⟨hT, t0, t4, t5⟩, hc', hl, hd, hx⟩ := hq
                obtain ⟨v0, v1, v2, v3, v4, v5, v6, v7, v8, v9, v10, v11, v12, v13, v14, v15, v16, v17, v18, v19, v20, v21, v22, v23, v24, v25, v26, v27, v28, v29, v30, v31, v32, v33, v34, v35, v36, v37, v38, v39, v40, v41, v42, v43, v44, v45, v46, v47, v48, v49, v50, v51, v52, v53, v54, v55, v56, v57, v58, v59, v60, v61, rfl⟩ := arr62 T hT
                obtain rfl : v0 = .pointer (some ⟨rb, 0, none⟩) := by simpa using t0
                obtain rfl : v4 = .pointer (some ⟨hb, 0, none⟩) := by simpa using t4
                obtain rfl : v5 = .slice (some ⟨ww, 4 + j', none⟩) (yr'.length + 2) c' := by simpa using t5
                replace hn' := Lib.hid hn'
                have hdrop : xr.drop (j' + 2) = yr' := by rw [← List.drop_drop, hl.drop]; rfl
                have HE := Lib.hid (And.intro (LeftH.mk hdrop hl.ok hl.rest hl.name) (And.intro hd hx))
                have q1 : (2 : Int) ≤ (yr'.length : Int) + 2 := by omega
                have q2 : (yr'.length : Int) + 2 ≤ c' := by omega
                clear hT t0 t4 t5 hl hd hx hdrop
                refine wpE_of ?_
                go_wp2
                · exact ⟨⟨yr', j' + 2, h', pv', _, _, ⟨rfl, rfl, rfl, rfl⟩, fun _ => by omega, HE.out.1, HE.out.2.1, HE.out.2.2⟩, by have e : m0 = yr.length + 1 + 1 := hmu.out; have e2 := hn'.out; show yr'.length < _; omega⟩
                · exact ⟨⟨yr', j' + 2, h', pv', _, _, ⟨rfl, rfl, rfl, rfl⟩, fun _ => ⟨rfl, by omega⟩, HE.out.1, HE.out.2.1, HE.out.2.2⟩, by have e : m0 = yr.length + 1 + 1 := hmu.out; have e2 := hn'.out; show yr'.length < _; omega⟩
            case pair =>
              obtain ⟨hL, hX, hpr0⟩ := HL.out
              have hX := hX.out
              have kc : xr[j]? = some k := by
                have := congrArg (·[0]?) hL.drop
                simpa using this
              have xc : xr[j + 1]? = some x := by
                have := congrArg (·[1]?) hL.drop
                simpa using this
              have ck : W.cell? ⟨ww, 4 + j, none⟩ = some (.string k) := hX.T.words (4 + j) k (by rw [Nat.add_comm]; exact kc)
              have cx : W.cell? ⟨ww, 4 + j + 1, none⟩ = some (.string x) := hX.T.words (4 + j + 1) x (by rw [show 4 + j + 1 = j + 1 + 4 by omega]; exact xc)
              have sx0 : x.size ≤ 1000000 := HF.out.2 x (by
                obtain ⟨hi, hx⟩ := List.getElem?_eq_some_iff.1 xc
                have : x ∈ xr := hx ▸ List.getElem_mem _
                simp [this])
              have sx : x.size ≤ 140737488351240 := by omega
              have hsk : (k.toList == [115, 116, 97, 112, 108, 101]) = stapleB k := list_is k #[115, 116, 97, 112, 108, 101]
              have i1 : (1 : Int) < (yr.length : Int) + 1 + 1 := by omega
              have i0 : (0 : Int) < (yr.length : Int) + 1 + 1 := by omega
              clear hL hX hpr0 kc xc
              refine wpE_block (wpE_seq (wpE_of ?_))
              cases hst : stapleB k with
              | true =>
                rw [hst] at hsk
                have HF4 := Lib.hid (file_calls x sx W HL.out.2.1.out.T.L)
                go_wp2_with fail
                refine HF4.out.mono ?_
                rintro e w6 ⟨B6, he⟩
                have he : e = match nameR (ofV fileL x) x with | .ok v => .returned v | .error k => .panicked [{ v := .iface 29 (.int .i64 k), recovered := false }] := he
                obtain ⟨hL, hX, hpr0⟩ := HL.out
                have hX := hX.out
                have T6 := hX.T.below B6
                have Q6 := hX.Q.below B6 hX.Q.lt
                have hrest : hostRest (k :: x :: yr) h = nameE (ofV fileL x) (hostRest yr { h with staple := x }) := by
                  show (if stapleB k = true then _ else _) = _
                  rw [if_pos hst]
                cases hv4 : ofV fileL x with
                | false =>
                  rw [hv4] at he
                  obtain rfl := he
                  exact HBP _ _ _ rfl (HPAN.out _ _ T6 (by rw [← hL.rest, hrest, hv4]; rfl))
                | true =>
                  rw [hv4] at he
                  obtain rfl := he
                  have f3 := Q6.free 3
                  have c3 := Q6.cell 3
                  have hnew : BoxH w (w6.setCell ⟨hb, 3, none⟩ (.string x)) rb sm ww hb C es clk (x0 :: x1 :: x2 :: x3 :: xr) { h with staple := x } (.slice none 0 0) [] :=
                    ⟨T6.other hb 3 (.string x) h8 hw1 e1 e2 e3, Q6.set 3 (.string x), by show World.ownsRow _ _ _ _ _ h.protocols.length (h.protocols.map Value.string); rw [hpr0]; exact World.ownsRow_nil _ _ _ _, .inl rfl⟩
                  have hleft : LeftH xr (k :: x :: yr) yr { h with staple := x } R0 x1 j := ⟨hL.drop, hL.ok.2, by rw [← hL.rest, hrest, hv4]; rfl, hL.name⟩
                  have HN := Lib.hid (And.intro hnew (And.intro hleft hpr0))
                  clear hL hX hpr0 T6 Q6 hrest hnew hleft
                  dsimp only [nameR_ok]
                  go_wp2
                  exact ⟨k, x, yr, j, { h with staple := x }, .slice none 0 0, c, rfl, ⟨rfl, rfl, rfl, rfl⟩, by omega, HN.out.2.1, fun _ => ⟨rfl, rfl, HN.out.2.2⟩, Lib.hid HN.out.1⟩
              | false =>
                rw [hst] at hsk
                go_wp2
                refine wpE_seq (wpE_of ?_)
                go_wp2_with (go_at_call 15; refine (SplitSeq_calls _ _ _).mono ?_; rintro e w' ⟨rfl, rfl⟩)
                obtain ⟨hL, hX, hpr0⟩ := HL.out
                have hX := hX.out
                have hhw : hb < W.heap.size := hX.Q.lt
                have T7 := ((hX.T.below ((Below.refl W.heap.size W).alloc (Nat.le_refl _) (.cells #[.string x] 9))).below ((Below.refl _ _).alloc (Nat.le_refl _) (.cells #[.string ⟨#[44]⟩] 9))).below ((Below.refl _ _).alloc (Nat.le_refl _) (.cells #[.int .i64 0] 3))
                have Q7 := ((hX.Q.alloc (.cells #[.string x] 9)).alloc (.cells #[.string ⟨#[44]⟩] 9)).alloc (.cells #[.int .i64 0] 3)
                have b2 := ((Blk.new W #[.string x] 9).alloc (.cells #[.string ⟨#[44]⟩] 9)).alloc (.cells #[.int .i64 0] 3)
                have b1 := (Blk.new (W.alloc (.cells #[.string x] 9)) #[.string ⟨#[44]⟩] 9).alloc (.cells #[.int .i64 0] 3)
                have b3 := Blk.new ((W.alloc (.cells #[.string x] 9)).alloc (.cells #[.string ⟨#[44]⟩] 9)) #[.int .i64 0] 3
                simp only [World.size_alloc] at b1 b3
                obtain ⟨W0, hW0⟩ : ∃ W0, ((W.alloc (.cells #[.string x] 9)).alloc (.cells #[.string ⟨#[44]⟩] 9)).alloc (.cells #[.int .i64 0] 3) = W0 := ⟨_, rfl⟩
                have z0 : W0.heap.size = W.heap.size + 3 := by rw [← hW0]; simp
                rw [hW0] at T7 Q7 b1 b2 b3
                rw [hW0]
                have z1 : W.heap.size + 3 ≤ W0.heap.size := by omega
                have hrest : hostRest (k :: x :: yr) h = nameE ((pieces 44 x).all protoV) (hostRest yr { h with protocols := h.protocols ++ pieces 44 x }) := by
                  show (if stapleB k = true then _ else _) = _
                  rw [if_neg (by rw [hst]; decide)]
                have hyr : yr = [] := hL.ok.1 hst
                clear hW0 z0
                refine wpE_block (wpE_rangeSplit Tryz.func39 44 x (by omega) (W.heap.size + 1) W.heap.size (W.heap.size + 1 + 1) rfl b1 b2 b3 (by omega) (by omega)
                  (fun pre V => ∃ pv, ProtoI w rb sm ww hb C es clk (x0 :: x1 :: x2 :: x3 :: xr) h (W0.heap.size + 2) pre pv V)
                  (ProtoNo w rb sm ww C es clk (x0 :: x1 :: x2 :: x3 :: xr) R0)
                  ?phI ⟨_, T7, Q7, World.ownsRow_nil _ _ _ _, rfl⟩ ?pa1 ?passign ?pbody ?pdone ?ppanic)
                case passign =>
                  intro l y V K hK
                  gi_wp2
                  exact hK
                case phI =>
                  rintro pre A B hS ⟨pv, j1, j2, j3, j4⟩
                  exact ⟨pv, j1.far hS h8 (by rintro b (rfl | rfl | rfl) <;> omega), j2.kept hS (by omega), own_kept j3 hS (by rintro g hg (rfl | rfl | rfl) <;> omega), j4⟩
                case pdone =>
                  rintro V ⟨pv, j1, j2, j3, j4⟩ hDD
                  subst hyr
                  have hgood : (pieces 44 x).all protoV = true := by
                    unfold pieces
                    rw [List.all_map]
                    exact j4
                  refine ⟨k, x, [], j, { h with protocols := h.protocols ++ pieces 44 x }, pv, c, rfl, ⟨rfl, rfl, rfl, rfl⟩, hc, ⟨hL.drop, trivial, ?_, hL.name⟩, fun h => absurd h (by simp), Lib.hid ⟨j1, j2, ?_, .inr ⟨W0.heap.size, by omega, rfl, hDD⟩⟩⟩
                  · rw [← hL.rest, hrest, hgood]
                    rfl
                  · show World.ownsRow _ _ _ _ _ (h.protocols ++ pieces 44 x).length ((h.protocols ++ pieces 44 x).map Value.string)
                    rw [hpr0, List.nil_append]
                    unfold pieces
                    rw [List.length_map, List.map_map]
                    exact own_base j3 (by omega)
                case ppanic =>
                  rintro ch V ⟨rfl, j1, j2⟩ hDD
                  exact HBPM _ _ _ (.inr ⟨W0.heap.size, by omega, rfl, hDD⟩) (HPAN.out _ _ j1 j2)
                case pbody =>
                  rintro l pre y V ⟨pv, j1, j2, j3, j4⟩ ⟨rest, hr⟩ hsz2
                  have hpc : xr.length ≤ cap := by omega
                  obtain ⟨hyl, hln0⟩ := cuts_bound 44 x.data.toList pre rest y.data.toList hr
                  have hxl : x.data.toList.length = x.size := (Lib.size_eq x).symm
                  have hyl2 : y.data.toList.length = y.size := (Lib.size_eq y).symm
                  have hy : y.size ≤ 140737488351240 := by omega
                  have hln : pre.length + 1 ≤ 1000001 := by omega
                  have HC := Lib.hid (protocol_calls y hy V.drew)
                  have hkl : ∀ b ∈ [W.heap.size, W.heap.size + 1, W.heap.size + 1 + 1, W0.heap.size, W0.heap.size + 1], b < V.heap.size ∧ ¬ (b = hb ∨ W0.heap.size + 2 ≤ b) := by
                    intro b hbm
                    simp only [List.mem_cons, List.not_mem_nil, or_false] at hbm
                    rcases hbm with rfl | rfl | rfl | rfl | rfl <;> omega
                  have HKEEP := Lib.hid hkl
                  have hpi : ProtoI w rb sm ww hb C es clk (x0 :: x1 :: x2 :: x3 :: xr) h (W0.heap.size + 2) pre pv V := ⟨j1, j2, j3, j4⟩
                  have HPI := Lib.hid hpi
                  have hlo : hb < W0.heap.size + 2 := by omega
                  have HLO := Lib.hid hlo
                  have HLN := Lib.hid hln
                  have HSZ := Lib.hid hsz2
                  have p0 : V.drew.cell? ⟨hb, 4, none⟩ = some pv := j2.cell 4
                  have hp4 : ∀ V4, Below V.drew.heap.size V.drew V4 → V4.cell? ⟨hb, 4, none⟩ = some pv ∧ (V4.alloc (.cells #[.string y] 9)).cell? ⟨hb, 4, none⟩ = some pv := fun V4 B4 =>
                    ⟨(j2.drew.below B4 j2.lt).cell 4, ((j2.drew.below B4 j2.lt).alloc _).cell 4⟩
                  have HP4 := Lib.hid hp4
                  have how : ∀ V4, Below V.drew.heap.size V.drew V4 → (V4.alloc (.cells #[.string y] 9)).ownsRow (W0.heap.size + 2) 9 1 pv pre.length (pre.map fun l => Value.string ⟨l.toArray⟩) := fun V4 B4 => (own_below (w := V.drew) (own_below j3 (Below.refl _ V).drew) B4).alloc _
                  have HOW := Lib.hid how
                  have HPN0 : protoV y = false → Hid (∀ V4, Below V.drew.heap.size V.drew V4 → KeepAt [W.heap.size, W.heap.size + 1, W.heap.size + 1 + 1, W0.heap.size, W0.heap.size + 1] V V4 ∧ ProtoNo w rb sm ww C es clk (x0 :: x1 :: x2 :: x3 :: xr) R0 [{ v := .iface 29 (.int .i64 223), recovered := false }] V4) := fun hf => Lib.hid fun V4 B4 => by
                    have hd : Same (fun b => b = hb ∨ W0.heap.size + 2 ≤ b) V V4 := (Same.refl _ V).drew.thru (same_below (S := fun _ => False) B4) (fun b _ e => e.elim)
                    refine ⟨KeepAt.of_same hd hkl, rfl, j1.drew.below B4, ?_⟩
                    rw [← hL.rest, hrest]
                    have : (pieces 44 x).all protoV = false := by
                      unfold pieces
                      rw [hr, List.all_map, List.all_append, List.all_cons]
                      have e : protoV ⟨y.data.toList.toArray⟩ = false := hf
                      rw [show (protoV ∘ fun l : List UInt8 => (⟨l.toArray⟩ : ByteArray)) y.data.toList = false from e]
                      simp
                    rw [this]
                    rfl
                  obtain ⟨is0, his, hz0, hz1, hz2⟩ := info_parts (show (Tryz.prog.info? 9).map (fun i => (i.zero, i.size, i.bytes)) = some (some (.string ⟨#[]⟩), 1, 16) by kernel_rfl)
                  clear hL hX hpr0 hrest hr hpi hlo hln hsz2 hp4 how j1 j2 j3 j4 hkl T7 Q7 b1 b2 b3 hyr hpc
                  refine wpIn_block ?_
                  -- rows
                  cases hpv : protoV y with
                  | false =>
                    rw [hpv] at HC
                    have HPN := HPN0 hpv
                    clear HPN0
                    refine wpIn_region_any (by kernel_rfl) ?_
                    try (change wpAnyIn _ _ _ _ _ _ _ _ _ (World.drew _))
                    refine wpAnyIn_ready (rs := [0, 2]) (by kernel_rfl) (by simp) ?_
                    refine AllReadyIn.cons rfl (fun K hK => ?_) ?_
                    · go_simp
                      refine hK _ _ ?_
                      clear hK K
                      refine wpAnyIn_ready (rs := [1, 2]) (by kernel_rfl) (by simp) ?_
                      refine AllReadyIn.cons rfl (fun K hK => ?_) ?_
                      · go_simp
                        refine hK _ _ ?_
                        clear hK K
                        refine wpAnyIn_ready (rs := [2]) (by kernel_rfl) (by simp) ?_
                        refine AllReadyIn.cons rfl (fun K hK => ?_) AllReadyIn.nil
                        go_simp
                        refine hK _ _ ?_
                        clear hK K
                        refine wpAnyIn_ready (rs := [3]) (by kernel_rfl) (by simp) ?_
                        refine AllReadyIn.cons rfl (fun K hK => ?_) AllReadyIn.nil
                        go_simp
                        refine ⟨trivial, rfl, ?_⟩
                        refine (CallsIn.inRound l (callsIn_wide.2 HC.out)).mono ?_
                        rintro e V4 ⟨B4, rfl⟩
                        exact ⟨rfl, (HPN.out V4 B4).1, (HPN.out V4 B4).2⟩
                      refine AllReadyIn.cons rfl (fun K hK => ?_) AllReadyIn.nil
                      go_simp
                      refine hK _ _ ?_
                      clear hK K
                      refine wpAnyIn_ready (rs := [1, 3]) (by kernel_rfl) (by simp) ?_
                      refine AllReadyIn.cons rfl (fun K hK => ?_) ?_
                      · go_simp
                        refine hK _ _ ?_
                        clear hK K
                        refine wpAnyIn_ready (rs := [3]) (by kernel_rfl) (by simp) ?_
                        refine AllReadyIn.cons rfl (fun K hK => ?_) AllReadyIn.nil
                        go_simp
                        refine ⟨trivial, rfl, ?_⟩
                        refine (CallsIn.inRound l (callsIn_wide.2 HC.out)).mono ?_
                        rintro e V4 ⟨B4, rfl⟩
                        exact ⟨rfl, (HPN.out V4 B4).1, (HPN.out V4 B4).2⟩
                      refine AllReadyIn.cons rfl (fun K hK => ?_) AllReadyIn.nil
                      go_simp
                      refine ⟨trivial, rfl, ?_⟩
                      refine (CallsIn.inRound l (callsIn_wide.2 HC.out)).mono ?_
                      rintro e V4 ⟨B4, rfl⟩
                      exact ⟨rfl, (HPN.out V4 B4).1, (HPN.out V4 B4).2⟩
                    refine AllReadyIn.cons rfl (fun K hK => ?_) AllReadyIn.nil
                    go_simp
                    refine hK _ _ ?_
                    clear hK K
                    refine wpAnyIn_ready (rs := [0, 3]) (by kernel_rfl) (by simp) ?_
                    refine AllReadyIn.cons rfl (fun K hK => ?_) ?_
                    · go_simp
                      refine hK _ _ ?_
                      clear hK K
                      refine wpAnyIn_ready (rs := [1, 3]) (by kernel_rfl) (by simp) ?_
                      refine AllReadyIn.cons rfl (fun K hK => ?_) ?_
                      · go_simp
                        refine hK _ _ ?_
                        clear hK K
                        refine wpAnyIn_ready (rs := [3]) (by kernel_rfl) (by simp) ?_
                        refine AllReadyIn.cons rfl (fun K hK => ?_) AllReadyIn.nil
                        go_simp
                        refine ⟨trivial, rfl, ?_⟩
                        refine (CallsIn.inRound l (callsIn_wide.2 HC.out)).mono ?_
                        rintro e V4 ⟨B4, rfl⟩
                        exact ⟨rfl, (HPN.out V4 B4).1, (HPN.out V4 B4).2⟩
                      refine AllReadyIn.cons rfl (fun K hK => ?_) AllReadyIn.nil
                      go_simp
                      refine ⟨trivial, rfl, ?_⟩
                      refine (CallsIn.inRound l (callsIn_wide.2 HC.out)).mono ?_
                      rintro e V4 ⟨B4, rfl⟩
                      exact ⟨rfl, (HPN.out V4 B4).1, (HPN.out V4 B4).2⟩
                    refine AllReadyIn.cons rfl (fun K hK => ?_) AllReadyIn.nil
                    go_simp
                    refine ⟨trivial, rfl, ?_⟩
                    refine (CallsIn.inRound l (callsIn_wide.2 HC.out)).mono ?_
                    rintro e V4 ⟨B4, rfl⟩
                    exact ⟨rfl, (HPN.out V4 B4).1, (HPN.out V4 B4).2⟩
                  | true =>
                    rw [hpv] at HC
                    clear HPN0
                    refine wpIn_region_any (by kernel_rfl) ?_
                    try (change wpAnyIn _ _ _ _ _ _ _ _ _ (World.drew _))
                    refine wpAnyIn_ready (rs := [0, 2]) (by kernel_rfl) (by simp) ?_
                    refine AllReadyIn.cons rfl (fun K hK => ?_) ?_
                    · go_simp
                      refine hK _ _ ?_
                      clear hK K
                      refine wpAnyIn_ready (rs := [1, 2]) (by kernel_rfl) (by simp) ?_
                      refine AllReadyIn.cons rfl (fun K hK => ?_) ?_
                      · go_simp
                        refine hK _ _ ?_
                        clear hK K
                        refine wpAnyIn_ready (rs := [2]) (by kernel_rfl) (by simp) ?_
                        refine AllReadyIn.cons rfl (fun K hK => ?_) AllReadyIn.nil
                        go_simp
                        refine hK _ _ ?_
                        clear hK K
                        refine wpAnyIn_ready (rs := [3]) (by kernel_rfl) (by simp) ?_
                        refine AllReadyIn.cons rfl (fun K hK => ?_) AllReadyIn.nil
                        go_simp
                        refine ⟨trivial, rfl, ?_⟩
                        refine (CallsIn.inRound l (callsIn_wide.2 HC.out)).mono ?_
                        rintro e V4 ⟨B4, rfl⟩
                        have p4 := (HP4.out V4 B4).1
                        have p5 := (HP4.out V4 B4).2
                        have HB4 := Lib.hid B4
                        clear B4
                        refine hK _ _ ?_
                        clear hK K
                        refine wpAnyIn_ready (rs := [4]) (by kernel_rfl) (by simp) ?_
                        refine AllReadyIn.cons rfl (fun K hK => ?_) AllReadyIn.nil
                        go_simp
                        refine hK _ _ ?_
                        clear hK K
                        refine wpAnyIn_ready (rs := [5]) (by kernel_rfl) (by simp) ?_
                        refine AllReadyIn.cons rfl (fun K hK => ?_) AllReadyIn.nil
                        rw [if_pos (by kernel_rfl)]
                        refine in_append (.tmp 44) (.tmp 47) 23 rfl (W0.heap.size + 2) 9 is0 (.string ⟨#[]⟩) 1 16 Tryz.underlying23 his hz0 hz1 hz2 rfl (by decide) pv pre.length (pre.map fun l => Value.string ⟨l.toArray⟩) rfl (HOW.out V4 HB4.out) ⟨V4.heap.size, 0, none⟩ 1 1 [.string y] rfl rfl ?_ ?_ ?_ ?_ ?_ ?_
                        · intro jj u hj
                          match jj, hj with
                          | 0, hj => simp at hj; subst hj; simp [Addr.add]
                        · intro u hu; simp at hu; subst hu; rfl
                        · have e := HLN.out; unfold maxLen; omega
                        · have e := HLN.out; omega
                        · have h1 := HB4.out.size; have h2 := HSZ.out; have h3 := World.size_alloc V4 (.cells #[.string y] 9); have h4 : V.drew.heap.size = V.heap.size := rfl; omega
                        intro v' w5 hown5 hg5
                        obtain ⟨g5, cap5, rfl⟩ := own_shape hown5
                        have HS := Lib.hid (proto_step HPI.out HB4.out hown5 hg5 hpv h8 hw1 l1 l2 l3 HLO.out)
                        have f4 := HS.out.2.2.free 4
                        have c4 : w5.cell? ⟨hb, 4, none⟩ = some pv := HS.out.2.2.cell 4
                        clear hown5 hg5
                        refine hK _ _ ?_
                        clear hK K
                        refine wpAnyIn_ready (rs := [6]) (by kernel_rfl) (by simp) ?_
                        refine AllReadyIn.cons rfl (fun K hK => ?_) AllReadyIn.nil
                        go_simp
                        refine hK _ _ ?_
                        clear hK K
                        refine wpAnyIn_ready (rs := [7]) (by kernel_rfl) (by simp) ?_
                        refine AllReadyIn.cons rfl (fun K hK => ?_) AllReadyIn.nil
                        go_simp
                        refine hK _ _ ?_
                        clear hK K
                        refine wpAnyIn_done (by kernel_rfl) ?_ _
                        exact ⟨KeepAt.of_same HS.out.1 HKEEP.out, _, HS.out.2.1⟩
                      refine AllReadyIn.cons rfl (fun K hK => ?_) AllReadyIn.nil
                      go_simp
                      refine hK _ _ ?_
                      clear hK K
                      refine wpAnyIn_ready (rs := [1, 3]) (by kernel_rfl) (by simp) ?_
                      refine AllReadyIn.cons rfl (fun K hK => ?_) ?_
                      · go_simp
                        refine hK _ _ ?_
                        clear hK K
                        refine wpAnyIn_ready (rs := [3]) (by kernel_rfl) (by simp) ?_
                        refine AllReadyIn.cons rfl (fun K hK => ?_) AllReadyIn.nil
                        go_simp
                        refine ⟨trivial, rfl, ?_⟩
                        refine (CallsIn.inRound l (callsIn_wide.2 HC.out)).mono ?_
                        rintro e V4 ⟨B4, rfl⟩
                        have p4 := (HP4.out V4 B4).1
                        have p5 := (HP4.out V4 B4).2
                        have HB4 := Lib.hid B4
                        clear B4
                        refine hK _ _ ?_
                        clear hK K
                        refine wpAnyIn_ready (rs := [4]) (by kernel_rfl) (by simp) ?_
                        refine AllReadyIn.cons rfl (fun K hK => ?_) AllReadyIn.nil
                        go_simp
                        refine hK _ _ ?_
                        clear hK K
                        refine wpAnyIn_ready (rs := [5]) (by kernel_rfl) (by simp) ?_
                        refine AllReadyIn.cons rfl (fun K hK => ?_) AllReadyIn.nil
                        rw [if_pos (by kernel_rfl)]
                        refine in_append (.tmp 44) (.tmp 47) 23 rfl (W0.heap.size + 2) 9 is0 (.string ⟨#[]⟩) 1 16 Tryz.underlying23 his hz0 hz1 hz2 rfl (by decide) pv pre.length (pre.map fun l => Value.string ⟨l.toArray⟩) rfl (HOW.out V4 HB4.out) ⟨V4.heap.size, 0, none⟩ 1 1 [.string y] rfl rfl ?_ ?_ ?_ ?_ ?_ ?_
                        · intro jj u hj
                          match jj, hj with
                          | 0, hj => simp at hj; subst hj; simp [Addr.add]
                        · intro u hu; simp at hu; subst hu; rfl
                        · have e := HLN.out; unfold maxLen; omega
                        · have e := HLN.out; omega
                        · have h1 := HB4.out.size; have h2 := HSZ.out; have h3 := World.size_alloc V4 (.cells #[.string y] 9); have h4 : V.drew.heap.size = V.heap.size := rfl; omega
                        intro v' w5 hown5 hg5
                        obtain ⟨g5, cap5, rfl⟩ := own_shape hown5
                        have HS := Lib.hid (proto_step HPI.out HB4.out hown5 hg5 hpv h8 hw1 l1 l2 l3 HLO.out)
                        have f4 := HS.out.2.2.free 4
                        have c4 : w5.cell? ⟨hb, 4, none⟩ = some pv := HS.out.2.2.cell 4
                        clear hown5 hg5
                        refine hK _ _ ?_
                        clear hK K
                        refine wpAnyIn_ready (rs := [6]) (by kernel_rfl) (by simp) ?_
                        refine AllReadyIn.cons rfl (fun K hK => ?_) AllReadyIn.nil
                        go_simp
                        refine hK _ _ ?_
                        clear hK K
                        refine wpAnyIn_ready (rs := [7]) (by kernel_rfl) (by simp) ?_
                        refine AllReadyIn.cons rfl (fun K hK => ?_) AllReadyIn.nil
                        go_simp
                        refine hK _ _ ?_
                        clear hK K
                        refine wpAnyIn_done (by kernel_rfl) ?_ _
                        exact ⟨KeepAt.of_same HS.out.1 HKEEP.out, _, HS.out.2.1⟩
                      refine AllReadyIn.cons rfl (fun K hK => ?_) AllReadyIn.nil
                      go_simp
                      refine ⟨trivial, rfl, ?_⟩
                      refine (CallsIn.inRound l (callsIn_wide.2 HC.out)).mono ?_
                      rintro e V4 ⟨B4, rfl⟩
                      have p4 := (HP4.out V4 B4).1
                      have p5 := (HP4.out V4 B4).2
                      have HB4 := Lib.hid B4
                      clear B4
                      refine hK _ _ ?_
                      clear hK K
                      refine wpAnyIn_ready (rs := [1, 4]) (by kernel_rfl) (by simp) ?_
                      refine AllReadyIn.cons rfl (fun K hK => ?_) ?_
                      · go_simp
                        refine hK _ _ ?_
                        clear hK K
                        refine wpAnyIn_ready (rs := [4]) (by kernel_rfl) (by simp) ?_
                        refine AllReadyIn.cons rfl (fun K hK => ?_) AllReadyIn.nil
                        go_simp
                        refine hK _ _ ?_
                        clear hK K
                        refine wpAnyIn_ready (rs := [5]) (by kernel_rfl) (by simp) ?_
                        refine AllReadyIn.cons rfl (fun K hK => ?_) AllReadyIn.nil
                        rw [if_pos (by kernel_rfl)]
                        refine in_append (.tmp 44) (.tmp 47) 23 rfl (W0.heap.size + 2) 9 is0 (.string ⟨#[]⟩) 1 16 Tryz.underlying23 his hz0 hz1 hz2 rfl (by decide) pv pre.length (pre.map fun l => Value.string ⟨l.toArray⟩) rfl (HOW.out V4 HB4.out) ⟨V4.heap.size, 0, none⟩ 1 1 [.string y] rfl rfl ?_ ?_ ?_ ?_ ?_ ?_
                        · intro jj u hj
                          match jj, hj with
                          | 0, hj => simp at hj; subst hj; simp [Addr.add]
                        · intro u hu; simp at hu; subst hu; rfl
                        · have e := HLN.out; unfold maxLen; omega
                        · have e := HLN.out; omega
                        · have h1 := HB4.out.size; have h2 := HSZ.out; have h3 := World.size_alloc V4 (.cells #[.string y] 9); have h4 : V.drew.heap.size = V.heap.size := rfl; omega
                        intro v' w5 hown5 hg5
                        obtain ⟨g5, cap5, rfl⟩ := own_shape hown5
                        have HS := Lib.hid (proto_step HPI.out HB4.out hown5 hg5 hpv h8 hw1 l1 l2 l3 HLO.out)
                        have f4 := HS.out.2.2.free 4
                        have c4 : w5.cell? ⟨hb, 4, none⟩ = some pv := HS.out.2.2.cell 4
                        clear hown5 hg5
                        refine hK _ _ ?_
                        clear hK K
                        refine wpAnyIn_ready (rs := [6]) (by kernel_rfl) (by simp) ?_
                        refine AllReadyIn.cons rfl (fun K hK => ?_) AllReadyIn.nil
                        go_simp
                        refine hK _ _ ?_
                        clear hK K
                        refine wpAnyIn_ready (rs := [7]) (by kernel_rfl) (by simp) ?_
                        refine AllReadyIn.cons rfl (fun K hK => ?_) AllReadyIn.nil
                        go_simp
                        refine hK _ _ ?_
                        clear hK K
                        refine wpAnyIn_done (by kernel_rfl) ?_ _
                        exact ⟨KeepAt.of_same HS.out.1 HKEEP.out, _, HS.out.2.1⟩
                      refine AllReadyIn.cons rfl (fun K hK => ?_) AllReadyIn.nil
                      go_simp
                      refine hK _ _ ?_
                      clear hK K
                      refine wpAnyIn_ready (rs := [1]) (by kernel_rfl) (by simp) ?_
                      refine AllReadyIn.cons rfl (fun K hK => ?_) AllReadyIn.nil
                      go_simp
                      refine hK _ _ ?_
                      clear hK K
                      refine wpAnyIn_ready (rs := [5]) (by kernel_rfl) (by simp) ?_
                      refine AllReadyIn.cons rfl (fun K hK => ?_) AllReadyIn.nil
                      rw [if_pos (by kernel_rfl)]
                      refine in_append (.tmp 44) (.tmp 47) 23 rfl (W0.heap.size + 2) 9 is0 (.string ⟨#[]⟩) 1 16 Tryz.underlying23 his hz0 hz1 hz2 rfl (by decide) pv pre.length (pre.map fun l => Value.string ⟨l.toArray⟩) rfl (HOW.out V4 HB4.out) ⟨V4.heap.size, 0, none⟩ 1 1 [.string y] rfl rfl ?_ ?_ ?_ ?_ ?_ ?_
                      · intro jj u hj
                        match jj, hj with
                        | 0, hj => simp at hj; subst hj; simp [Addr.add]
                      · intro u hu; simp at hu; subst hu; rfl
                      · have e := HLN.out; unfold maxLen; omega
                      · have e := HLN.out; omega
                      · have h1 := HB4.out.size; have h2 := HSZ.out; have h3 := World.size_alloc V4 (.cells #[.string y] 9); have h4 : V.drew.heap.size = V.heap.size := rfl; omega
                      intro v' w5 hown5 hg5
                      obtain ⟨g5, cap5, rfl⟩ := own_shape hown5
                      have HS := Lib.hid (proto_step HPI.out HB4.out hown5 hg5 hpv h8 hw1 l1 l2 l3 HLO.out)
                      have f4 := HS.out.2.2.free 4
                      have c4 : w5.cell? ⟨hb, 4, none⟩ = some pv := HS.out.2.2.cell 4
                      clear hown5 hg5
                      refine hK _ _ ?_
                      clear hK K
                      refine wpAnyIn_ready (rs := [6]) (by kernel_rfl) (by simp) ?_
                      refine AllReadyIn.cons rfl (fun K hK => ?_) AllReadyIn.nil
                      go_simp
                      refine hK _ _ ?_
                      clear hK K
                      refine wpAnyIn_ready (rs := [7]) (by kernel_rfl) (by simp) ?_
                      refine AllReadyIn.cons rfl (fun K hK => ?_) AllReadyIn.nil
                      go_simp
                      refine hK _ _ ?_
                      clear hK K
                      refine wpAnyIn_done (by kernel_rfl) ?_ _
                      exact ⟨KeepAt.of_same HS.out.1 HKEEP.out, _, HS.out.2.1⟩
                    refine AllReadyIn.cons rfl (fun K hK => ?_) AllReadyIn.nil
                    go_simp
                    refine hK _ _ ?_
                    clear hK K
                    refine wpAnyIn_ready (rs := [0, 3]) (by kernel_rfl) (by simp) ?_
                    refine AllReadyIn.cons rfl (fun K hK => ?_) ?_
                    · go_simp
                      refine hK _ _ ?_
                      clear hK K
                      refine wpAnyIn_ready (rs := [1, 3]) (by kernel_rfl) (by simp) ?_
                      refine AllReadyIn.cons rfl (fun K hK => ?_) ?_
                      · go_simp
                        refine hK _ _ ?_
                        clear hK K
                        refine wpAnyIn_ready (rs := [3]) (by kernel_rfl) (by simp) ?_
                        refine AllReadyIn.cons rfl (fun K hK => ?_) AllReadyIn.nil
                        go_simp
                        refine ⟨trivial, rfl, ?_⟩
                        refine (CallsIn.inRound l (callsIn_wide.2 HC.out)).mono ?_
                        rintro e V4 ⟨B4, rfl⟩
                        have p4 := (HP4.out V4 B4).1
                        have p5 := (HP4.out V4 B4).2
                        have HB4 := Lib.hid B4
                        clear B4
                        refine hK _ _ ?_
                        clear hK K
                        refine wpAnyIn_ready (rs := [4]) (by kernel_rfl) (by simp) ?_
                        refine AllReadyIn.cons rfl (fun K hK => ?_) AllReadyIn.nil
                        go_simp
                        refine hK _ _ ?_
                        clear hK K
                        refine wpAnyIn_ready (rs := [5]) (by kernel_rfl) (by simp) ?_
                        refine AllReadyIn.cons rfl (fun K hK => ?_) AllReadyIn.nil
                        rw [if_pos (by kernel_rfl)]
                        refine in_append (.tmp 44) (.tmp 47) 23 rfl (W0.heap.size + 2) 9 is0 (.string ⟨#[]⟩) 1 16 Tryz.underlying23 his hz0 hz1 hz2 rfl (by decide) pv pre.length (pre.map fun l => Value.string ⟨l.toArray⟩) rfl (HOW.out V4 HB4.out) ⟨V4.heap.size, 0, none⟩ 1 1 [.string y] rfl rfl ?_ ?_ ?_ ?_ ?_ ?_
                        · intro jj u hj
                          match jj, hj with
                          | 0, hj => simp at hj; subst hj; simp [Addr.add]
                        · intro u hu; simp at hu; subst hu; rfl
                        · have e := HLN.out; unfold maxLen; omega
                        · have e := HLN.out; omega
                        · have h1 := HB4.out.size; have h2 := HSZ.out; have h3 := World.size_alloc V4 (.cells #[.string y] 9); have h4 : V.drew.heap.size = V.heap.size := rfl; omega
                        intro v' w5 hown5 hg5
                        obtain ⟨g5, cap5, rfl⟩ := own_shape hown5
                        have HS := Lib.hid (proto_step HPI.out HB4.out hown5 hg5 hpv h8 hw1 l1 l2 l3 HLO.out)
                        have f4 := HS.out.2.2.free 4
                        have c4 : w5.cell? ⟨hb, 4, none⟩ = some pv := HS.out.2.2.cell 4
                        clear hown5 hg5
                        refine hK _ _ ?_
                        clear hK K
                        refine wpAnyIn_ready (rs := [6]) (by kernel_rfl) (by simp) ?_
                        refine AllReadyIn.cons rfl (fun K hK => ?_) AllReadyIn.nil
                        go_simp
                        refine hK _ _ ?_
                        clear hK K
                        refine wpAnyIn_ready (rs := [7]) (by kernel_rfl) (by simp) ?_
                        refine AllReadyIn.cons rfl (fun K hK => ?_) AllReadyIn.nil
                        go_simp
                        refine hK _ _ ?_
                        clear hK K
                        refine wpAnyIn_done (by kernel_rfl) ?_ _
                        exact ⟨KeepAt.of_same HS.out.1 HKEEP.out, _, HS.out.2.1⟩
                      refine AllReadyIn.cons rfl (fun K hK => ?_) AllReadyIn.nil
                      go_simp
                      refine ⟨trivial, rfl, ?_⟩
                      refine (CallsIn.inRound l (callsIn_wide.2 HC.out)).mono ?_
                      rintro e V4 ⟨B4, rfl⟩
                      have p4 := (HP4.out V4 B4).1
                      have p5 := (HP4.out V4 B4).2
                      have HB4 := Lib.hid B4
                      clear B4
                      refine hK _ _ ?_
                      clear hK K
                      refine wpAnyIn_ready (rs := [1, 4]) (by kernel_rfl) (by simp) ?_
                      refine AllReadyIn.cons rfl (fun K hK => ?_) ?_
                      · go_simp
                        refine hK _ _ ?_
                        clear hK K
                        refine wpAnyIn_ready (rs := [4]) (by kernel_rfl) (by simp) ?_
                        refine AllReadyIn.cons rfl (fun K hK => ?_) AllReadyIn.nil
                        go_simp
                        refine hK _ _ ?_
                        clear hK K
                        refine wpAnyIn_ready (rs := [5]) (by kernel_rfl) (by simp) ?_
                        refine AllReadyIn.cons rfl (fun K hK => ?_) AllReadyIn.nil
                        rw [if_pos (by kernel_rfl)]
                        refine in_append (.tmp 44) (.tmp 47) 23 rfl (W0.heap.size + 2) 9 is0 (.string ⟨#[]⟩) 1 16 Tryz.underlying23 his hz0 hz1 hz2 rfl (by decide) pv pre.length (pre.map fun l => Value.string ⟨l.toArray⟩) rfl (HOW.out V4 HB4.out) ⟨V4.heap.size, 0, none⟩ 1 1 [.string y] rfl rfl ?_ ?_ ?_ ?_ ?_ ?_
                        · intro jj u hj
                          match jj, hj with
                          | 0, hj => simp at hj; subst hj; simp [Addr.add]
                        · intro u hu; simp at hu; subst hu; rfl
                        · have e := HLN.out; unfold maxLen; omega
                        · have e := HLN.out; omega
                        · have h1 := HB4.out.size; have h2 := HSZ.out; have h3 := World.size_alloc V4 (.cells #[.string y] 9); have h4 : V.drew.heap.size = V.heap.size := rfl; omega
                        intro v' w5 hown5 hg5
                        obtain ⟨g5, cap5, rfl⟩ := own_shape hown5
                        have HS := Lib.hid (proto_step HPI.out HB4.out hown5 hg5 hpv h8 hw1 l1 l2 l3 HLO.out)
                        have f4 := HS.out.2.2.free 4
                        have c4 : w5.cell? ⟨hb, 4, none⟩ = some pv := HS.out.2.2.cell 4
                        clear hown5 hg5
                        refine hK _ _ ?_
                        clear hK K
                        refine wpAnyIn_ready (rs := [6]) (by kernel_rfl) (by simp) ?_
                        refine AllReadyIn.cons rfl (fun K hK => ?_) AllReadyIn.nil
                        go_simp
                        refine hK _ _ ?_
                        clear hK K
                        refine wpAnyIn_ready (rs := [7]) (by kernel_rfl) (by simp) ?_
                        refine AllReadyIn.cons rfl (fun K hK => ?_) AllReadyIn.nil
                        go_simp
                        refine hK _ _ ?_
                        clear hK K
                        refine wpAnyIn_done (by kernel_rfl) ?_ _
                        exact ⟨KeepAt.of_same HS.out.1 HKEEP.out, _, HS.out.2.1⟩
                      refine AllReadyIn.cons rfl (fun K hK => ?_) AllReadyIn.nil
                      go_simp
                      refine hK _ _ ?_
                      clear hK K
                      refine wpAnyIn_ready (rs := [1]) (by kernel_rfl) (by simp) ?_
                      refine AllReadyIn.cons rfl (fun K hK => ?_) AllReadyIn.nil
                      go_simp
                      refine hK _ _ ?_
                      clear hK K
                      refine wpAnyIn_ready (rs := [5]) (by kernel_rfl) (by simp) ?_
                      refine AllReadyIn.cons rfl (fun K hK => ?_) AllReadyIn.nil
                      rw [if_pos (by kernel_rfl)]
                      refine in_append (.tmp 44) (.tmp 47) 23 rfl (W0.heap.size + 2) 9 is0 (.string ⟨#[]⟩) 1 16 Tryz.underlying23 his hz0 hz1 hz2 rfl (by decide) pv pre.length (pre.map fun l => Value.string ⟨l.toArray⟩) rfl (HOW.out V4 HB4.out) ⟨V4.heap.size, 0, none⟩ 1 1 [.string y] rfl rfl ?_ ?_ ?_ ?_ ?_ ?_
                      · intro jj u hj
                        match jj, hj with
                        | 0, hj => simp at hj; subst hj; simp [Addr.add]
                      · intro u hu; simp at hu; subst hu; rfl
                      · have e := HLN.out; unfold maxLen; omega
                      · have e := HLN.out; omega
                      · have h1 := HB4.out.size; have h2 := HSZ.out; have h3 := World.size_alloc V4 (.cells #[.string y] 9); have h4 : V.drew.heap.size = V.heap.size := rfl; omega
                      intro v' w5 hown5 hg5
                      obtain ⟨g5, cap5, rfl⟩ := own_shape hown5
                      have HS := Lib.hid (proto_step HPI.out HB4.out hown5 hg5 hpv h8 hw1 l1 l2 l3 HLO.out)
                      have f4 := HS.out.2.2.free 4
                      have c4 : w5.cell? ⟨hb, 4, none⟩ = some pv := HS.out.2.2.cell 4
                      clear hown5 hg5
                      refine hK _ _ ?_
                      clear hK K
                      refine wpAnyIn_ready (rs := [6]) (by kernel_rfl) (by simp) ?_
                      refine AllReadyIn.cons rfl (fun K hK => ?_) AllReadyIn.nil
                      go_simp
                      refine hK _ _ ?_
                      clear hK K
                      refine wpAnyIn_ready (rs := [7]) (by kernel_rfl) (by simp) ?_
                      refine AllReadyIn.cons rfl (fun K hK => ?_) AllReadyIn.nil
                      go_simp
                      refine hK _ _ ?_
                      clear hK K
                      refine wpAnyIn_done (by kernel_rfl) ?_ _
                      exact ⟨KeepAt.of_same HS.out.1 HKEEP.out, _, HS.out.2.1⟩
                    refine AllReadyIn.cons rfl (fun K hK => ?_) AllReadyIn.nil
                    go_simp
                    refine ⟨trivial, rfl, ?_⟩
                    refine (CallsIn.inRound l (callsIn_wide.2 HC.out)).mono ?_
                    rintro e V4 ⟨B4, rfl⟩
                    have p4 := (HP4.out V4 B4).1
                    have p5 := (HP4.out V4 B4).2
                    have HB4 := Lib.hid B4
                    clear B4
                    refine hK _ _ ?_
                    clear hK K
                    refine wpAnyIn_ready (rs := [0, 4]) (by kernel_rfl) (by simp) ?_
                    refine AllReadyIn.cons rfl (fun K hK => ?_) ?_
                    · go_simp
                      refine hK _ _ ?_
                      clear hK K
                      refine wpAnyIn_ready (rs := [1, 4]) (by kernel_rfl) (by simp) ?_
                      refine AllReadyIn.cons rfl (fun K hK => ?_) ?_
                      · go_simp
                        refine hK _ _ ?_
                        clear hK K
                        refine wpAnyIn_ready (rs := [4]) (by kernel_rfl) (by simp) ?_
                        refine AllReadyIn.cons rfl (fun K hK => ?_) AllReadyIn.nil
                        go_simp
                        refine hK _ _ ?_
                        clear hK K
                        refine wpAnyIn_ready (rs := [5]) (by kernel_rfl) (by simp) ?_
                        refine AllReadyIn.cons rfl (fun K hK => ?_) AllReadyIn.nil
                        rw [if_pos (by kernel_rfl)]
                        refine in_append (.tmp 44) (.tmp 47) 23 rfl (W0.heap.size + 2) 9 is0 (.string ⟨#[]⟩) 1 16 Tryz.underlying23 his hz0 hz1 hz2 rfl (by decide) pv pre.length (pre.map fun l => Value.string ⟨l.toArray⟩) rfl (HOW.out V4 HB4.out) ⟨V4.heap.size, 0, none⟩ 1 1 [.string y] rfl rfl ?_ ?_ ?_ ?_ ?_ ?_
                        · intro jj u hj
                          match jj, hj with
                          | 0, hj => simp at hj; subst hj; simp [Addr.add]
                        · intro u hu; simp at hu; subst hu; rfl
                        · have e := HLN.out; unfold maxLen; omega
                        · have e := HLN.out; omega
                        · have h1 := HB4.out.size; have h2 := HSZ.out; have h3 := World.size_alloc V4 (.cells #[.string y] 9); have h4 : V.drew.heap.size = V.heap.size := rfl; omega
                        intro v' w5 hown5 hg5
                        obtain ⟨g5, cap5, rfl⟩ := own_shape hown5
                        have HS := Lib.hid (proto_step HPI.out HB4.out hown5 hg5 hpv h8 hw1 l1 l2 l3 HLO.out)
                        have f4 := HS.out.2.2.free 4
                        have c4 : w5.cell? ⟨hb, 4, none⟩ = some pv := HS.out.2.2.cell 4
                        clear hown5 hg5
                        refine hK _ _ ?_
                        clear hK K
                        refine wpAnyIn_ready (rs := [6]) (by kernel_rfl) (by simp) ?_
                        refine AllReadyIn.cons rfl (fun K hK => ?_) AllReadyIn.nil
                        go_simp
                        refine hK _ _ ?_
                        clear hK K
                        refine wpAnyIn_ready (rs := [7]) (by kernel_rfl) (by simp) ?_
                        refine AllReadyIn.cons rfl (fun K hK => ?_) AllReadyIn.nil
                        go_simp
                        refine hK _ _ ?_
                        clear hK K
                        refine wpAnyIn_done (by kernel_rfl) ?_ _
                        exact ⟨KeepAt.of_same HS.out.1 HKEEP.out, _, HS.out.2.1⟩
                      refine AllReadyIn.cons rfl (fun K hK => ?_) AllReadyIn.nil
                      go_simp
                      refine hK _ _ ?_
                      clear hK K
                      refine wpAnyIn_ready (rs := [1]) (by kernel_rfl) (by simp) ?_
                      refine AllReadyIn.cons rfl (fun K hK => ?_) AllReadyIn.nil
                      go_simp
                      refine hK _ _ ?_
                      clear hK K
                      refine wpAnyIn_ready (rs := [5]) (by kernel_rfl) (by simp) ?_
                      refine AllReadyIn.cons rfl (fun K hK => ?_) AllReadyIn.nil
                      rw [if_pos (by kernel_rfl)]
                      refine in_append (.tmp 44) (.tmp 47) 23 rfl (W0.heap.size + 2) 9 is0 (.string ⟨#[]⟩) 1 16 Tryz.underlying23 his hz0 hz1 hz2 rfl (by decide) pv pre.length (pre.map fun l => Value.string ⟨l.toArray⟩) rfl (HOW.out V4 HB4.out) ⟨V4.heap.size, 0, none⟩ 1 1 [.string y] rfl rfl ?_ ?_ ?_ ?_ ?_ ?_
                      · intro jj u hj
                        match jj, hj with
                        | 0, hj => simp at hj; subst hj; simp [Addr.add]
                      · intro u hu; simp at hu; subst hu; rfl
                      · have e := HLN.out; unfold maxLen; omega
                      · have e := HLN.out; omega
                      · have h1 := HB4.out.size; have h2 := HSZ.out; have h3 := World.size_alloc V4 (.cells #[.string y] 9); have h4 : V.drew.heap.size = V.heap.size := rfl; omega
                      intro v' w5 hown5 hg5
                      obtain ⟨g5, cap5, rfl⟩ := own_shape hown5
                      have HS := Lib.hid (proto_step HPI.out HB4.out hown5 hg5 hpv h8 hw1 l1 l2 l3 HLO.out)
                      have f4 := HS.out.2.2.free 4
                      have c4 : w5.cell? ⟨hb, 4, none⟩ = some pv := HS.out.2.2.cell 4
                      clear hown5 hg5
                      refine hK _ _ ?_
                      clear hK K
                      refine wpAnyIn_ready (rs := [6]) (by kernel_rfl) (by simp) ?_
                      refine AllReadyIn.cons rfl (fun K hK => ?_) AllReadyIn.nil
                      go_simp
                      refine hK _ _ ?_
                      clear hK K
                      refine wpAnyIn_ready (rs := [7]) (by kernel_rfl) (by simp) ?_
                      refine AllReadyIn.cons rfl (fun K hK => ?_) AllReadyIn.nil
                      go_simp
                      refine hK _ _ ?_
                      clear hK K
                      refine wpAnyIn_done (by kernel_rfl) ?_ _
                      exact ⟨KeepAt.of_same HS.out.1 HKEEP.out, _, HS.out.2.1⟩
                    refine AllReadyIn.cons rfl (fun K hK => ?_) AllReadyIn.nil
                    go_simp
                    refine hK _ _ ?_
                    clear hK K
                    refine wpAnyIn_ready (rs := [0]) (by kernel_rfl) (by simp) ?_
                    refine AllReadyIn.cons rfl (fun K hK => ?_) AllReadyIn.nil
                    go_simp
                    refine hK _ _ ?_
                    clear hK K
                    refine wpAnyIn_ready (rs := [1]) (by kernel_rfl) (by simp) ?_
                    refine AllReadyIn.cons rfl (fun K hK => ?_) AllReadyIn.nil
                    go_simp
                    refine hK _ _ ?_
                    clear hK K
                    refine wpAnyIn_ready (rs := [5]) (by kernel_rfl) (by simp) ?_
                    refine AllReadyIn.cons rfl (fun K hK => ?_) AllReadyIn.nil
                    rw [if_pos (by kernel_rfl)]
                    refine in_append (.tmp 44) (.tmp 47) 23 rfl (W0.heap.size + 2) 9 is0 (.string ⟨#[]⟩) 1 16 Tryz.underlying23 his hz0 hz1 hz2 rfl (by decide) pv pre.length (pre.map fun l => Value.string ⟨l.toArray⟩) rfl (HOW.out V4 HB4.out) ⟨V4.heap.size, 0, none⟩ 1 1 [.string y] rfl rfl ?_ ?_ ?_ ?_ ?_ ?_
                    · intro jj u hj
                      match jj, hj with
                      | 0, hj => simp at hj; subst hj; simp [Addr.add]
                    · intro u hu; simp at hu; subst hu; rfl
                    · have e := HLN.out; unfold maxLen; omega
                    · have e := HLN.out; omega
                    · have h1 := HB4.out.size; have h2 := HSZ.out; have h3 := World.size_alloc V4 (.cells #[.string y] 9); have h4 : V.drew.heap.size = V.heap.size := rfl; omega
                    intro v' w5 hown5 hg5
                    obtain ⟨g5, cap5, rfl⟩ := own_shape hown5
                    have HS := Lib.hid (proto_step HPI.out HB4.out hown5 hg5 hpv h8 hw1 l1 l2 l3 HLO.out)
                    have f4 := HS.out.2.2.free 4
                    have c4 : w5.cell? ⟨hb, 4, none⟩ = some pv := HS.out.2.2.cell 4
                    clear hown5 hg5
                    refine hK _ _ ?_
                    clear hK K
                    refine wpAnyIn_ready (rs := [6]) (by kernel_rfl) (by simp) ?_
                    refine AllReadyIn.cons rfl (fun K hK => ?_) AllReadyIn.nil
                    go_simp
                    refine hK _ _ ?_
                    clear hK K
                    refine wpAnyIn_ready (rs := [7]) (by kernel_rfl) (by simp) ?_
                    refine AllReadyIn.cons rfl (fun K hK => ?_) AllReadyIn.nil
                    go_simp
                    refine hK _ _ ?_
                    clear hK K
                    refine wpAnyIn_done (by kernel_rfl) ?_ _
                    exact ⟨KeepAt.of_same HS.out.1 HKEEP.out, _, HS.out.2.1⟩
                  -- end of rows
end Go.Proofs.YtjokcflpjpophaaGreatDoor
