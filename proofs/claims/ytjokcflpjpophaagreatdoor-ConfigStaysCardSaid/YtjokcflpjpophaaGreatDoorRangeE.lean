/- The statement 'for x := range strings.SplitSeq(s, sep) { .. }' in a function's own frames: the body may panic. Conditions: the iterator's three captured variables are there, and the body leaves them and the loop's own two blocks alone. -/
import Derived.Test.YtjokcflpjpophaaGreatDoorOnly
namespace Go.Proofs.YtjokcflpjpophaaGreatDoor
open Go.RowKit

/-- How the body of a round may be left, a panic too. -/
def splitPostE (L : List Nat) (I : World → Prop) (Jp : List PanicEntry → World → Prop) (W : World) : Exit → Act → World → Prop
  | .normal, _, W' => KeepAt L W W' ∧ I W'
  | .panic ch, a, W' => a.defers = [] ∧ KeepAt L W W' ∧ Jp ch W'
  | _, _, _ => False

theorem wpE_rangeSplit {f : FuncId} {fn : Func} (hf : Tryz.prog.funcs[f]? = some fn) {p : Tmp} {g : Operand} {assign body : Code} {Q : Exit → Act → World → Prop} {a : Act} {w : World} (c : UInt8) (s : ByteArray) (hs : s.size ≤ 9223372036854775807) (bsep bs bsave : Nat)
    (hg : a.eval g = .func (.func 70) #[] #[.pointer (some ⟨bsep, 0, none⟩), .pointer (some ⟨bs, 0, none⟩), .pointer (some ⟨bsave, 0, none⟩)])
    (h1 : Blk w bsep #[.string ⟨#[c]⟩] 9) (h2 : Blk w bs #[.string s] 9) (h3 : Blk w bsave #[.int .i64 0] 3) (hne1 : bs ≠ bsep) (hne2 : bs ≠ bsave)
    (I : List (List UInt8) → World → Prop) (Jp : List PanicEntry → World → Prop)
    (hI : ∀ pre A B, Same (fun b => b = bs ∨ b = w.heap.size ∨ b = w.heap.size + 1) A B → I pre A → I pre B)
    (h0 : I [] w) (a₁ : ByteArray → Act)
    (hassign : ∀ (l : Nat) (x : ByteArray) (W : World) (K : Act → World → Prop), K (a₁ x) W →
      assign.wpIn (Fence.wide.inRound l) (0 - 1 - 1) Tryz.prog (Exit.then K (fun _ _ _ => False)) { tmps := a.tmps.setIfInBounds p (.string x), defers := [] } W)
    (hbody : ∀ (l : Nat) (pre : List (List UInt8)) (x : ByteArray) (W : World), I pre W → (∃ rest, cuts c s.data.toList = pre ++ x.data.toList :: rest) → w.heap.size + 2 ≤ W.heap.size →
      body.wpIn (Fence.wide.inRound l) (0 - 1 - 1) Tryz.prog (splitPostE [bs, bsep, bsave, w.heap.size, w.heap.size + 1] (I (pre ++ [x.data.toList])) Jp W) (a₁ x) W)
    (hdone : ∀ (W : World), I (cuts c s.data.toList) W → W.heap[w.heap.size]? = some (.deferred (some [])) → Q .normal { a with defers := { target := .collected w.heap.size, args := #[] } :: a.defers } W)
    (hpanic : ∀ (ch : List PanicEntry) (W : World), Jp ch W → W.heap[w.heap.size]? = some (.deferred (some [])) → Q (.panic ch) { a with defers := { target := .collected w.heap.size, args := #[] } :: a.defers } W) :
    wpE f Tryz.prog (Code.rangeFunc g #[p] assign body) Q a w := by
  have eg : ∀ args w, (callFunc 70 args).run Tryz.prog w = .ok (.enter 70 args) w := enters_of Tryz.func70 (by kernel_rfl) rfl
  refine wpE_rangeFunc ?_
  obtain ⟨rec, hrec⟩ : ∃ rec : LoopState → Option Code → Loop, rec = fun st pe => { state := st, pending := pe, fn := f, tmps := a.tmps, params := #[p], assign, body, defers := w.heap.size } := ⟨_, rfl⟩
  obtain ⟨W1, hW1⟩ : ∃ W1, (w.alloc (.deferred (some []))).alloc (.loop (rec .ready none)) = W1 := ⟨_, rfl⟩
  have hS1 : Same (fun b => b = bs ∨ b = w.heap.size ∨ b = w.heap.size + 1) w W1 := by rw [← hW1]; exact ((Same.refl _ w).alloc _).alloc _
  have hz1 : W1.heap.size = w.heap.size + 2 := by rw [← hW1]; simp
  have hL1 : W1.heap[w.heap.size + 1]? = some (.loop (rec .ready none)) := by
    rw [← hW1]; have := World.alloc_heap_new (w.alloc (.deferred (some []))) (.loop (rec .ready none)); rwa [World.size_alloc] at this
  have hK1 : W1.heap[w.heap.size]? = some (.deferred (some [])) := by
    rw [← hW1]; exact (Below.heap_alloc _ _ _ (by simp)).trans (World.alloc_heap_new w _)
  have l1 := h1.lt
  have l2 := h2.lt
  have l3 := h3.lt
  have b1 : Blk W1 bsep #[.string ⟨#[c]⟩] 9 := h1.kept (S := fun _ => False) (by rw [← hW1]; exact ((Same.refl _ w).alloc _).alloc _) (fun h => h)
  have b2 : Blk W1 bs #[.string s] 9 := h2.kept (S := fun _ => False) (by rw [← hW1]; exact ((Same.refl _ w).alloc _).alloc _) (fun h => h)
  have b3 : Blk W1 bsave #[.int .i64 0] 3 := h3.kept (S := fun _ => False) (by rw [← hW1]; exact ((Same.refl _ w).alloc _).alloc _) (fun h => h)
  refine ⟨w.heap.size + 1, [{ target := .collected w.heap.size, args := #[] }], W1, { target := .fn (.func 70) #[.pointer (some ⟨bsep, 0, none⟩), .pointer (some ⟨bs, 0, none⟩), .pointer (some ⟨bsave, 0, none⟩)], args := #[.func (.yield (w.heap.size + 1)) #[] #[]] }, W1, 70,
    #[.func (.yield (w.heap.size + 1)) #[] #[]] ++ #[.pointer (some ⟨bsep, 0, none⟩), .pointer (some ⟨bs, 0, none⟩), .pointer (some ⟨bsave, 0, none⟩)], W1, ?_, ?_, ?_, ?_⟩
  · rw [← hW1, hrec]; exact run_enterLoop_outer _ _ _ _ _
  · simp only [resolve, hg]
    simp [go_sem]
  · simp [invoke, go_sem, eg]
  · refine (split_iter 0 (w.heap.size + 1) bsep bs bsave c (cuts c s.data.toList)
      (fun pre W => I pre W ∧ W.heap[w.heap.size + 1]? = some (.loop (rec .ready none)) ∧ W.heap[w.heap.size]? = some (.deferred (some [])) ∧ Blk W bsep #[.string ⟨#[c]⟩] 9 ∧ Blk W bsave #[.int .i64 0] 3)
      (fun _ => False)
      (fun ch W => Jp ch W ∧ W.heap[w.heap.size]? = some (.deferred (some []))) (fun pre W h => ⟨h.2.2.2.1, h.2.2.2.2⟩) ?_ ?_ s hs rfl W1 b2 ⟨hI _ _ _ hS1 h0, hL1, hK1, b1, b3⟩).mono ?_
    · -- the iterator's own store
      rintro pre W v ⟨hi, hl, hk, hb1, hb3⟩
      exact ⟨hI _ _ _ ((Same.refl _ W).set _ _ (fun _ => .inl rfl)) hi, (Below.heap_setCell W _ _ _ (by simp; omega)).trans hl, (Below.heap_setCell W _ _ _ (by simp; omega)).trans hk, hb1.other _ _ (Ne.symm hne1), hb3.other _ _ (Ne.symm hne2)⟩
    · -- one round
      rintro pre x W ⟨hi, hl, hk, hb1, hb3⟩ hrest
      have hlt : w.heap.size + 1 < W.heap.size := (Array.getElem?_eq_some_iff.1 hl).1
      have hy : (Instr.yield (w.heap.size + 1) #[.string x]).run Tryz.prog W = .ok (.round (w.heap.size + 1) f (a.tmps.setIfInBounds p (.string x)) assign body) W := by
        have hy := run_yield (P := Tryz.prog) (args := #[.string x]) hl (by rw [hrec]; rfl)
        rw [hrec] at hy
        simpa using hy
      refine ⟨f, _, assign, body, hy, ?_⟩
      refine roundE hf ?_
      refine hassign _ x W _ ?_
      refine ⟨_, run_beginRound hl (by rw [hrec]), ?_⟩
      have hl2 : (W.putObj (w.heap.size + 1) (.loop { rec .ready none with state := .busy })).heap[w.heap.size + 1]? = some (.loop { rec .ready none with state := .busy }) := World.putObj_heap_same hlt
      have hk2 : (W.putObj (w.heap.size + 1) (.loop { rec .ready none with state := .busy })).heap[w.heap.size]? = some (.deferred (some [])) := (World.putObj_heap_other (by omega)).trans hk
      have hbs2 : (W.putObj (w.heap.size + 1) (.loop { rec .ready none with state := .busy })).heap[bs]? = W.heap[bs]? := World.putObj_heap_other (by omega)
      have hb12 : Blk (W.putObj (w.heap.size + 1) (.loop { rec .ready none with state := .busy })) bsep #[.string ⟨#[c]⟩] 9 := hb1.put _ _ (by omega)
      have hb32 : Blk (W.putObj (w.heap.size + 1) (.loop { rec .ready none with state := .busy })) bsave #[.int .i64 0] 3 := hb3.put _ _ (by omega)
      refine wpIn_mono (hbody _ pre x _ (hI _ _ _ (putObj_same _ W _ _ (.inr (.inr rfl))) hi) hrest (by simp; omega)) ?_
      have fin : ∀ (jump : Option Code) (W3 : World), KeepAt [bs, bsep, bsave, w.heap.size, w.heap.size + 1] (W.putObj (w.heap.size + 1) (.loop { rec .ready none with state := .busy })) W3 →
          (Instr.endRound (w.heap.size + 1) jump).run Tryz.prog W3 = .ok (.bool jump.isNone) (W3.putObj (w.heap.size + 1) (.loop (rec (if jump.isNone then .ready else .done) jump))) ∧
          (W3.putObj (w.heap.size + 1) (.loop (rec (if jump.isNone then .ready else .done) jump))).heap[w.heap.size + 1]? = some (.loop (rec (if jump.isNone then .ready else .done) jump)) ∧
          (W3.putObj (w.heap.size + 1) (.loop (rec (if jump.isNone then .ready else .done) jump))).heap[w.heap.size]? = some (.deferred (some [])) ∧
          (W3.putObj (w.heap.size + 1) (.loop (rec (if jump.isNone then .ready else .done) jump))).heap[bs]? = W.heap[bs]? ∧
          Blk (W3.putObj (w.heap.size + 1) (.loop (rec (if jump.isNone then .ready else .done) jump))) bsep #[.string ⟨#[c]⟩] 9 ∧
          Blk (W3.putObj (w.heap.size + 1) (.loop (rec (if jump.isNone then .ready else .done) jump))) bsave #[.int .i64 0] 3 := fun jump W3 hk3 => by
        have hl3 := (hk3.2 (w.heap.size + 1) (by simp)).trans hl2
        have hd3 := (hk3.2 w.heap.size (by simp)).trans hk2
        have hs3 := (hk3.2 bs (by simp)).trans hbs2
        have hq1 : Blk W3 bsep #[.string ⟨#[c]⟩] 9 := hb12.same (hk3.2 bsep (by simp))
        have hq3 : Blk W3 bsave #[.int .i64 0] 3 := hb32.same (hk3.2 bsave (by simp))
        have hrun := run_endRound (P := Tryz.prog) jump hl3
        rw [hrec] at hrun ⊢
        exact ⟨hrun, World.putObj_heap_same (Array.getElem?_eq_some_iff.1 hl3).1, (World.putObj_heap_other (by omega)).trans hd3, (World.putObj_heap_other (by omega)).trans hs3, hq1.put _ _ (by omega), hq3.put _ _ (by omega)⟩
      rintro e a3 W3 hp
      cases e with
      | normal =>
        obtain ⟨hk3, hi3⟩ := hp
        obtain ⟨hr, hl4, hk4, hs4, hq1, hq3⟩ := fin none W3 hk3
        exact ⟨_, _, hr, .inl ⟨rfl, ⟨hI _ _ _ (putObj_same _ W3 _ _ (.inr (.inr rfl))) hi3, hl4, hk4, hq1, hq3⟩, hs4⟩⟩
      | panic ch =>
        obtain ⟨hd, hk3, hp⟩ := hp
        exact ⟨hd, .inr (.inr ⟨ch, rfl, hp, (hk3.2 w.heap.size (by simp)).trans hk2⟩)⟩
      | ret => exact hp.elim
      | exit id => exact hp.elim
      | goto t => exact hp.elim
      | outgrown => exact hp.elim
    · -- behind the iterator
      rintro e W2 (⟨⟨v, rfl⟩, hi, hl, hk, _, _⟩ | ⟨_, hx⟩ | ⟨ch, rfl, hp, hk⟩)
      · exact ⟨none, _, by have := run_endLoop (P := Tryz.prog) hl (by rw [hrec]; simp); rw [hrec] at this; exact this, hdone _ (hI _ _ _ (putObj_same _ W2 _ _ (.inr (.inr rfl))) hi) ((World.putObj_heap_other (by omega)).trans hk)⟩
      · exact hx.elim
      · exact hpanic ch W2 hp hk
end Go.Proofs.YtjokcflpjpophaaGreatDoor
