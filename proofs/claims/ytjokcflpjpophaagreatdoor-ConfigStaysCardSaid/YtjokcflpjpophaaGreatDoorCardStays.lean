/- ConfigStays, proved of every argument: the order of lines that stand at most once, lines that say nothing and an end of the last line change nothing of what is read. No condition but the row's own (the listed variables hold what their text lays). -/
import Derived.Test.YtjokcflpjpophaaGreatDoorLaid
import Derived.Deep.Slices
import Derived.SizedLaws
import Derived.ChangeArms
import Derived.Test.YtjokcflpjpophaaGreatDoorWalkStays
namespace Go.Proofs.YtjokcflpjpophaaGreatDoor
open Go.ChangeShapes Go.WideShapes Go.ChangeAt Go.RowKit Go.Deep
open Go.ChangeMaps (open_string shut_string)

namespace configStays

theorem lays260 : Go.Proofs.Lays.n260 Tryz.prog Tryz.lays271_ren := { Tryz.lays271 with }
theorem u8x : U8Extra Tryz.prog Tryz.lays271_ren where
  n3 := by kernel_rfl
  n4 := by kernel_rfl
  y3 := by kernel_rfl
  y4 := by kernel_rfl
  c5 := by kernel_rfl
  c119 := by kernel_rfl
  c138 := by kernel_rfl

/-- A variable of an interface's type that reads as one. -/
theorem iface_reads {w : World} {n nm : String} {d : DataW Unit} (ht : ∀ g t, Tryz.prog.globalNamed n = some g → (Tryz.prog.globals[g]?).map (·.type) = some t → ∃ ms, Tryz.prog.underlying t = some (.interface ms)) (h : Lib.VarReads Tryz.prog w n (.iface nm d)) :
    ∃ tp p, w.var? Tryz.prog n = some #[.iface tp p] := by
  obtain ⟨g, t, cs, fuel, p, hg, hty, hvar, hd⟩ := h
  obtain ⟨ms, hi⟩ := ht g t hg hty
  obtain ⟨_, u, v, hc, _, _⟩ := iface_of_trod hi hd
  refine ⟨u, v, ?_⟩
  rw [hvar]
  exact congrArg some (Array.ext' hc)

set_option maxRecDepth 100000 in
/-- What the row lays is what the walk asks. -/
theorem laidW_of {W : World} (hl : laidMetH Tryz.prog Rows.configStaysRow.laid W) (hsh : W.ShapedOpen Tryz.prog) : LaidW W := by
  have hm : laidMet Tryz.prog Rows.configStaysRow.laid W := hl
  have rd := fun n d hmem => Lib.laidMet.reads (n := n) (d := d) hm hmem
  have r1 := rd "internal/strconv.uint64pow10" Rows.laid_internal_strconv_uint64pow10 (by simp [Rows.configStaysRow])
  have r2 := rd "unicode/utf8.first" Rows.laid_unicode_utf8_first (by simp [Rows.configStaysRow])
  have r3 := rd "unicode/utf8.acceptRanges" Rows.laid_unicode_utf8_acceptRanges (by simp [Rows.configStaysRow])
  have r4 := rd "strconv.ErrRange" Rows.laid_strconv_ErrRange (by simp [Rows.configStaysRow])
  have r5 := rd "strconv.ErrSyntax" Rows.laid_strconv_ErrSyntax (by simp [Rows.configStaysRow])
  obtain ⟨m, hm2⟩ := maxLen_cell hsh
  have hsize : 8 ≤ W.heap.size := by
    obtain ⟨g, t, cs, fuel, p, hg, hty, hvar, hd⟩ := rd "math/bits.deBruijn64tab" Rows.laid_math_bits_deBruijn64tab (by simp [Rows.configStaysRow])
    obtain rfl := Option.some.inj ((show Tryz.prog.globalNamed "math/bits.deBruijn64tab" = some 7 by kernel_rfl).symm.trans hg)
    unfold World.var? at hvar
    rw [hg] at hvar
    cases hh : W.heap[7]? with
    | none => simp [hh] at hvar
    | some o => exact (Array.getElem?_eq_some_iff.1 hh).1
  refine ⟨hsize, ?_, ?_, ?_, ?_, m, hm2⟩
  · obtain ⟨g, t, cs, fuel, p, hg, hty, hvar, hd⟩ := r1
    obtain rfl := Option.some.inj ((show Tryz.prog.globalNamed "internal/strconv.uint64pow10" = some 5 by kernel_rfl).symm.trans hg)
    obtain rfl := Option.some.inj ((show (Tryz.prog.globals[5]?).map (·.type) = some 175 by kernel_rfl).symm.trans hty)
    have hcs := Lib.cells_of_tab (zs := Lib.pow10Tab) (Tryz.underlying175) (Tryz.underlying39) (by kernel_rfl) (by kernel_rfl) hd
    show W.var? _ _ = _
    rw [hvar]
    exact congrArg some (Array.ext' hcs)
  · exact utf8Tabs_of_reads lays260 u8x r2 r3
  · exact iface_reads (fun g t hg hty => by
      obtain rfl := Option.some.inj ((show Tryz.prog.globalNamed "strconv.ErrRange" = some 4 by kernel_rfl).symm.trans hg)
      obtain rfl := Option.some.inj ((show (Tryz.prog.globals[4]?).map (·.type) = some 109 by kernel_rfl).symm.trans hty)
      exact ⟨_, Tryz.underlying109⟩) r4
  · have hx := iface_reads (fun g t hg hty => by
      obtain rfl := Option.some.inj ((show Tryz.prog.globalNamed "strconv.ErrSyntax" = some 3 by kernel_rfl).symm.trans hg)
      obtain rfl := Option.some.inj ((show (Tryz.prog.globals[3]?).map (·.type) = some 109 by kernel_rfl).symm.trans hty)
      exact ⟨_, Tryz.underlying109⟩) r5
    obtain ⟨tp, p, hv⟩ := hx
    exact ⟨tp, p, (World.var?_cell (by kernel_rfl) hv 0).trans rfl⟩

set_option maxRecDepth 100000 in
/-- The law's call, of every argument that reads as data, in every world of the row's shape. -/
theorem contract (H : Type) (enc : TypeId × Value → H) (W : World) (base : Nat) (args : Array Value) (ds gs : List (DataW H)) (before : List MemPlace)
    (hval : ∀ (j : Nat) t v, Tryz.f3.params[j]? = some t → args[j]? = some v → Value.okWide Tryz.prog W .any base t v)
    (hW : DataW.Whole enc Tryz.prog Tryz.f3.params.toList Rows.configStaysSpec.vars false W args.toList ds gs before)
    (hsz0 : (DataW.weightsEach Tryz.prog (Tryz.f3.params.toList ++ Rows.configStaysSpec.plain.varTypes Tryz.prog) (ds ++ gs)).all (· ≤ reachBytes) = true)
    (hl : laidMetH Tryz.prog Rows.configStaysRow.laid W) (hsh : W.ShapedOpen Tryz.prog) :
    Calls Tryz.prog 3 args W fun e W' => ∃ v, e = .returned v ∧ Rows.configStaysSpec.post enc Tryz.prog Tryz.f3 false true false false W args v W' := by
  have hW' := hW
  obtain ⟨p, q, hA0, hV, rfl, hfz, hnd⟩ := hW
  have hA : DataW.TrodAll enc Tryz.prog W 0 (fun _ => true) true Tryz.f3.params.toList args.toList ds p := hA0
  rw [Tryz.params3] at hA hval hsz0
  obtain ⟨v0, vs0, d0, ds0, p0, q0, hargs, rfl, rfl, h0, r0⟩ := trodAll_cons hA
  obtain ⟨v1, vs1, d1, ds1, p1, q1, rfl, rfl, rfl, h1, r1⟩ := trodAll_cons r0
  obtain ⟨v2, vs2, d2, ds2, p2, q2, rfl, rfl, rfl, h2, r2⟩ := trodAll_cons r1
  obtain ⟨v3, vs3, d3, ds3, p3, q3, rfl, rfl, rfl, h3, r3⟩ := trodAll_cons r2
  obtain ⟨rfl, rfl, rfl⟩ := trodAll_nil r3
  obtain rfl : args = #[v0, v1, v2, v3] := by cases args; simp_all
  obtain ⟨rfl, rfl⟩ := trodVars_none hV
  obtain ⟨a, rfl, rfl, rfl, _⟩ := open_string Tryz.underlying9 (hval 0 9 v0 rfl rfl) h0
  obtain ⟨b, rfl, rfl, rfl, _⟩ := open_string Tryz.underlying9 (hval 1 9 v1 rfl rfl) h1
  obtain ⟨note, rfl, rfl, rfl, _⟩ := open_string Tryz.underlying9 (hval 2 9 v2 rfl rfl) h2
  obtain ⟨turned, rfl, rfl, rfl⟩ := open_bool Tryz.underlying4 (hval 3 4 v3 rfl rfl) h3
  clear hA0
  simp only [List.append_nil] at hW'
  have sa : a.size ≤ 140737488351240 := by
    have := sized_string hsz0 (j := 0) (t := 9) (bytes := a.data.toList) rfl rfl
    unfold reachBytes at this
    rw [Lib.size_eq]; omega
  have sb : b.size ≤ 140737488351240 := by
    have := sized_string hsz0 (j := 1) (t := 9) (bytes := b.data.toList) rfl rfl
    unfold reachBytes at this
    rw [Lib.size_eq]; omega
  have sn : note.size ≤ 140737488351240 := by
    have := sized_string hsz0 (j := 2) (t := 9) (bytes := note.data.toList) rfl rfl
    unfold reachBytes at this
    rw [Lib.size_eq]; omega
  have hc := walk_stays a b note turned W (laidW_of hl hsh) sa sb sn
  exact hc.mono fun e W' ⟨he, hb⟩ => ⟨_, he, ⟨_, _, _, [], _, [], hW', trodAll_mk1 (shut_bool Tryz.underlying4 true),
      trodAll_cons_mk (shut_string Tryz.underlying9 (by assumption)) (trodAll_cons_mk (shut_string Tryz.underlying9 (by assumption)) (trodAll_cons_mk (shut_string Tryz.underlying9 (by assumption)) (trodAll_cons_mk (shut_bool Tryz.underlying4 turned) trodAll_mk0))), rfl, hb.frame _, fun h => by cases h⟩⟩

theorem laid_metL (os : Os) (args : Array Value) : laidMet Tryz.prog Rows.configStaysRow.laid ((laidWorld os).forCall (fun _ _ => 0) ⟨#[], args, []⟩).memory := laid_met os args

theorem witness_row (os : Os) {H : Type} (enc : TypeId × Value → H) :
    (OpenSpec.ofChange Rows.configStaysSpec).preRow enc Tryz.prog Tryz.f3 Rows.configStaysRow.domain false Rows.configStaysRow.laid ((laidWorld os).forCall (fun _ _ => 0) ⟨#[], #[.string ⟨#[]⟩, .string ⟨#[]⟩, .string ⟨#[]⟩, .bool false], []⟩).memory #[.string ⟨#[]⟩, .string ⟨#[]⟩, .string ⟨#[]⟩, .bool false] := by
  have hw : (DataW.whole enc Tryz.prog ((laidWorld os).forCall (fun _ _ => 0) ⟨#[], #[.string ⟨#[]⟩, .string ⟨#[]⟩, .string ⟨#[]⟩, .bool false], []⟩).memory Tryz.f3.params.toList Rows.configStaysSpec.vars false #[Value.string ⟨#[]⟩, Value.string ⟨#[]⟩, Value.string ⟨#[]⟩, Value.bool false].toList 8).map (fun x => (x.1, x.2.1)) =
      some ([.lit (.string []), .lit (.string []), .lit (.string []), .lit (.bool false)], []) := by kernel_rfl
  obtain ⟨⟨x1, x2, x3⟩, hx, hx1⟩ := Option.map_eq_some_iff.1 hw
  simp only [Prod.mk.injEq] at hx1
  obtain ⟨rfl, rfl⟩ := hx1
  exact OpenSpec.preRow_of_cond 8 hx (by kernel_rfl) (fun k hk => by cases hk) (by kernel_rfl) (laid_metL os _)

set_option maxRecDepth 100000 in
theorem lifted (os : Os) (started : os.Started) (H : Type) (enc : TypeId × Value → H) (F : Stop.Interp) :
    ReturnsInHanded {} Tryz.checked os 3 .any ((OpenSpec.ofChange Rows.configStaysSpec).preRow enc Tryz.prog Tryz.f3 Rows.configStaysRow.domain false Rows.configStaysRow.laid) (((OpenSpec.ofChange Rows.configStaysSpec).at F).post enc Tryz.prog Tryz.f3 false true false false) := by
  refine returnsInHanded_of_row (C := Tryz.checked) (s := OpenSpec.ofChange Rows.configStaysSpec) own started (by kernel_rfl) Tryz.func3
    (witness_row_atRef (enc := enc) (C := Tryz.checked) false (laidWorld os) #[.string ⟨#[]⟩, .string ⟨#[]⟩, .string ⟨#[]⟩, .bool false] rfl (by kernel_rfl) (by kernel_rfl) (by kernel_rfl) (witness_row os enc)) ?_
  intro W base args ds gs before hval hW _ _ hsz hl hsh _
  exact contract H enc W base args ds gs before hval hW hsz hl hsh

theorem said : Rows.ConfigStaysSaid :=
  OpenClaim.holds_of_cond 3 Tryz.f3 rfl rfl rfl rfl rfl rfl rfl ⟨rfl, rfl, rfl, rfl, rfl⟩ rfl rfl rfl rfl rfl (by kernel_rfl) Tryz.func3 (by kernel_rfl)
    (of_decide_eq_true (by kernel_rfl)) (by unfold Func.isWrapper; first | (rw [if_pos (by decide +kernel)]; kernel_rfl) | (rw [if_neg (by decide +kernel)]; exact ⟨rfl, rfl⟩))
    (fun os started H enc _ F => by rw [OpenClaim.pre_eq_preRow]; exact lifted os started H enc F)

theorem plain (f : FuncId) (fn : Func) (hf : Tryz.pinned.checked.prog.funcNamed "drawbridge/drawbridgelaw22.ConfigStays" = some f) (hfn : Tryz.pinned.checked.prog.funcs[f]? = some fn) :
    true = Tryz.pinned.checked.prog.looks [] ∧ ∀ (j : Nat) t, fn.params[j]? = some t → Tryz.pinned.checked.prog.wantsStandIn t = false := by
  obtain rfl : f = 3 := Option.some.inj ((show Tryz.prog.funcNamed "drawbridge/drawbridgelaw22.ConfigStays" = some 3 by kernel_rfl).symm.trans hf) |>.symm
  obtain rfl : fn = Tryz.f3 := (Option.some.inj (Tryz.func3.symm.trans hfn)).symm
  refine ⟨by kernel_rfl, fun j t ht => ?_⟩
  rw [Tryz.params3] at ht
  have ht' := Array.mem_of_getElem? ht
  simp only [List.mem_toArray, List.mem_cons, List.not_mem_nil, or_false] at ht'
  rcases ht' with rfl | rfl | rfl | rfl
  · exact (show Tryz.prog.wantsStandIn 9 = false by kernel_rfl)
  · exact (show Tryz.prog.wantsStandIn 9 = false by kernel_rfl)
  · exact (show Tryz.prog.wantsStandIn 9 = false by kernel_rfl)
  · exact (show Tryz.prog.wantsStandIn 4 = false by kernel_rfl)

/-- ████ THE CARD ████ -/
theorem card : Rows.ConfigStaysCardSaid :=
  Claim7.holds_tied_plain_at .later [] _ _ _ _ said (fun _ h => by cases h) (by kernel_rfl) (fun _ h => by cases h) configStays_row_tie rfl ⟨rfl, rfl⟩ (by kernel_rfl) rfl plain (by kernel_rfl)
end configStays
end Go.Proofs.YtjokcflpjpophaaGreatDoor
