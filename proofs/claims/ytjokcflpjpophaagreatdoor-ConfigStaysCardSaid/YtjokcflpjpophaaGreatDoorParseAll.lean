/- config.Parse at any text within the reach: what it hands back is what parseV says. Conditions: the text lies in a row of bytes, the library's variables are there. -/
import Derived.Test.YtjokcflpjpophaaGreatDoorPlaced
import Derived.Test.YtjokcflpjpophaaGreatDoorParse
namespace Go.Proofs.YtjokcflpjpophaaGreatDoor
open Go.RowKit
attribute [local go_sem] Oper.semAt_some

/-- Pieces of a text as texts. -/
def asTexts (l : List (List UInt8)) : List ByteArray := l.map fun x => ⟨x.toArray⟩
theorem asTexts_snoc (pre : List (List UInt8)) (x : ByteArray) : asTexts (pre ++ [x.data.toList]) = asTexts pre ++ [x] := by
  unfold asTexts
  rw [List.map_append]
  rfl
theorem run_snoc (pre : List (List UInt8)) (x : ByteArray) (st : St) (h : runL act (asTexts pre) 0 st0 = .ok st) :
    runL act (asTexts (pre ++ [x.data.toList])) 0 st0 = match (act x).run st with | .ok st' => .ok st' | .error e => .error ((pre.length : Int) + 1, e) := by
  rw [asTexts_snoc, runL_append, h]
  have : (asTexts pre).length = pre.length := by simp [asTexts]
  rw [this]
  simp only [runL]
  cases (act x).run st with
  | ok st' => rfl
  | error e => simp
theorem run_whole (pre rest : List (List UInt8)) (x : ByteArray) (st : St) (h : runL act (asTexts pre) 0 st0 = .ok st) (e : Int) (he : (act x).run st = .error e) :
    runL act (asTexts (pre ++ x.data.toList :: rest)) 0 st0 = .error ((pre.length : Int) + 1, e) := by
  have h1 : pre ++ x.data.toList :: rest = (pre ++ [x.data.toList]) ++ rest := by simp
  have h2 := run_snoc pre x st h
  rw [he] at h2
  rw [h1, show asTexts ((pre ++ [x.data.toList]) ++ rest) = asTexts (pre ++ [x.data.toList]) ++ asTexts rest from List.map_append, runL_append, h2]

theorem act_nz {x : ByteArray} {st : St} {c : Int} (h : (act x).run st = .error c) : c ≠ 0 := by
  cases ha : act x with
  | idle => rw [ha] at h; cases h
  | bad e =>
    rw [ha] at h
    cases h
    exact act_bad ha
  | on k f =>
    rw [ha] at h
    obtain ⟨_, _, rfl⟩ := act_at ha
    cases hf : step k (wordsOf x) (st k) with
    | ok v => rw [run_on_ok hf] at h; cases h
    | error e =>
      rw [run_on_err hf] at h
      cases h
      exact NZ.step k _ _ c hf
/-- What the loop over the lines keeps. -/
structure PA (w : World) (E L : Nat) (pre : List (List UInt8)) (W : World) : Prop where
  cnt : Blk W (L + 1) #[.int .i64 pre.length] 3
  mp : Blk W L #[.map (some (E + 1 + 1 + 1 + 1 + 1 + 1))] 60
  c0 : Blk W E confZ 28
  c1 : Blk W (E + 1) #[.int .i64 0] 3
  c2 : Blk W (E + 1 + 1) #[.int .i64 0] 29
  rc : Blk W (E + 1 + 1 + 1 + 1 + 1) #[.pointer (some ⟨E + 1 + 1 + 1 + 1, 0, none⟩)] 56
  ln : LinesAt W (E + 1 + 1 + 1 + 1 + 1 + 1)
  be : Below w.heap.size w W
  rd : ∃ st, runL act (asTexts pre) 0 st0 = .ok st ∧ RdIs W (L + 7) (E + 1 + 1 + 1 + 1) (E + 1 + 1 + 1) st
/-- How a refused line leaves it. -/
def PAx (w : World) (E : Nat) (s : ByteArray) (j : Code) (W : World) : Prop := j = .ret ∧ ∃ k c : Int, runL act (pieces 10 s) 0 st0 = .error (k, c) ∧ Blk W E confZ 28 ∧ Blk W (E + 1) #[.int .i64 k] 3 ∧ Blk W (E + 1 + 1) #[.int .i64 c] 29 ∧ Below w.heap.size w W

theorem PA.same {w A B : World} {E L : Nat} {pre : List (List UInt8)} (h : PA w E L pre A) (hE : E = w.heap.size) (hL : E + 36 ≤ L) (hs : Same (fun b => b = L + 2 ∨ b = L + 5 ∨ b = L + 6) A B) : PA w E L pre B where
  cnt := h.cnt.kept hs (by omega)
  mp := h.mp.kept hs (by omega)
  c0 := h.c0.kept hs (by omega)
  c1 := h.c1.kept hs (by omega)
  c2 := h.c2.kept hs (by omega)
  rc := h.rc.kept hs (by omega)
  ln := h.ln.below (hs.below L (Nat.le_of_lt h.mp.lt) (by omega)) (by omega) (Nat.le_of_lt h.mp.lt)
  be := h.be.trans (hs.below _ h.be.size (by omega))
  rd := by
    obtain ⟨st, h1, h2⟩ := h.rd
    exact ⟨st, h1, h2.kept hs (by omega) (by omega) (fun g hg => by omega)⟩
theorem PAx.same {w A B : World} {E L : Nat} {s : ByteArray} {j : Code} (h : PAx w E s j A) (hE : E = w.heap.size) (hL : E + 36 ≤ L) (hs : Same (fun b => b = L + 2 ∨ b = L + 5 ∨ b = L + 6) A B) : PAx w E s j B := by
  obtain ⟨h0, k, c, h1, h2, h3, h4, h5⟩ := h
  exact ⟨h0, k, c, h1, h2.kept hs (by omega), h3.kept hs (by omega), h4.kept hs (by omega), h5.trans (hs.below _ h5.size (by omega))⟩
theorem LinesAt.kept {w w' : World} {B : Nat} {S : Nat → Prop} (h : LinesAt w B) (hs : Same S w w') (hS : ∀ b, B ≤ b → b < B + 30 → ¬ S b) : LinesAt w' B := by
  have go : ∀ {b : Nat} {c : Array Value} {T : TypeId}, B ≤ b ∧ b < B + 30 → Blk w b c T → Blk w' b c T := fun {b c T} h1 h2 => h2.kept hs (hS b h1.1 h1.2)
  exact { map := (hs.block B (Array.getElem?_eq_some_iff.1 h.map).1 (hS B (by omega) (by omega))).trans h.map,
          one0 := ⟨go (by omega) h.one0.1, go (by omega) h.one0.2.1, go (by omega) h.one0.2.2.1, go (by omega) h.one0.2.2.2⟩,
          one1 := ⟨go (by omega) h.one1.1, go (by omega) h.one1.2.1, go (by omega) h.one1.2.2.1, go (by omega) h.one1.2.2.2⟩,
          one2 := ⟨go (by omega) h.one2.1, go (by omega) h.one2.2.1, go (by omega) h.one2.2.2.1, go (by omega) h.one2.2.2.2⟩,
          one3 := ⟨go (by omega) h.one3.1, go (by omega) h.one3.2.1, go (by omega) h.one3.2.2.1, go (by omega) h.one3.2.2.2⟩,
          one4 := ⟨go (by omega) h.one4.1, go (by omega) h.one4.2.1, go (by omega) h.one4.2.2.1, go (by omega) h.one4.2.2.2⟩,
          words5 := go (by omega) h.words5,
          words6 := go (by omega) h.words6,
          words9 := go (by omega) h.words9,
          words10 := go (by omega) h.words10 }
/-- One line more. -/
theorem PA.next {w W W' : World} {E L : Nat} {pre : List (List UInt8)} (h : PA w E L pre W) (hE : E = w.heap.size) (hL : E + 36 ≤ L) (x : ByteArray) (hs : Same (fun b => b = L + 1 ∨ b = E + 1 + 1 + 1 + 1 ∨ b = E + 1 + 1 + 1 ∨ L + 7 ≤ b) W W')
    (hc : Blk W' (L + 1) #[.int .i64 ((pre.length : Int) + 1)] 3) (st' : St) (hr : runL act (asTexts (pre ++ [x.data.toList])) 0 st0 = .ok st') (hd : RdIs W' (L + 7) (E + 1 + 1 + 1 + 1) (E + 1 + 1 + 1) st') : PA w E L (pre ++ [x.data.toList]) W' where
  cnt := by rw [List.length_append]; exact hc
  mp := h.mp.kept hs (by omega)
  c0 := h.c0.kept hs (by omega)
  c1 := h.c1.kept hs (by omega)
  c2 := h.c2.kept hs (by omega)
  rc := h.rc.kept hs (by omega)
  ln := h.ln.kept hs (fun b h1 h2 => by omega)
  be := h.be.trans (hs.below _ h.be.size (by omega))
  rd := ⟨st', hr, hd⟩

/-- What a conf holds, in memory. -/
structure ConfIs (w : World) (C : Array Value) (st : St) (A1 : Option Addr) (c1 : Nat) (A2 : Option Addr) (c2 : Nat) (A3 : Option Addr) (c3 : Nat) (hs : List HostV) : Prop where
  C : C = confS st A1 hs.length c1 A2 (st 9).bs.length c2 A3 (st 10).rs.length c3
  H : w.ownsRow 0 72 5 (.slice A1 hs.length c1) hs.length (hs.flatMap hostCells)
  P : ∀ b ∈ hs, ProtoAt 0 w b
  hh : hs.map Prod.fst = (st 8).hs
  Bk : w.ownsRow 0 75 4 (.slice A2 (st 9).bs.length c2) (st 9).bs.length ((st 9).bs.flatMap backCells)
  Rt : w.ownsRow 0 68 3 (.slice A3 (st 10).rs.length c3) (st 10).rs.length ((st 10).rs.flatMap routeCells)
  nH : hs.length ≤ 16
  nB : (st 9).bs.length ≤ 16
  nR : (st 10).rs.length ≤ 16
def ConfOf (w : World) (C : Array Value) : Option St → Prop
  | none => C = confZ
  | some st => ∃ A1 c1 A2 c2 A3 c3 hs, ConfIs w C st A1 c1 A2 c2 A3 c3 hs
theorem own_any {w : World} {base n size : Nat} {e : TypeId} {v : Value} {xs : List Value} (h : w.ownsRow base e size v n xs) : ∃ A c, v = .slice A n c := by
  rcases own_form h with ⟨rfl, rfl⟩ | ⟨g, cap, rfl, _⟩
  · exact ⟨none, 0, rfl⟩
  · exact ⟨_, _, rfl⟩
theorem own_backs {w : World} {base c : Nat} {A : Option Addr} {bs : List BackL} (h : w.ownsRow base 75 4 (.slice A bs.length c) bs.length (bs.flatMap backCells)) : BacksAt w A bs := fun hp => by
  rcases own_form h with ⟨_, h0⟩ | ⟨g, cap, hv, hg, _⟩
  · omega
  · cases hv
    exact ⟨g, rfl, hg, own_BackAt h⟩
theorem own_routes {w : World} {base c : Nat} {A : Option Addr} {bs : List RouteL} (h : w.ownsRow base 68 3 (.slice A bs.length c) bs.length (bs.flatMap routeCells)) : 0 < bs.length → ∃ g, A = some ⟨g, 0, none⟩ ∧ g < w.heap.size ∧ RouteAt w g bs := fun hp => by
  rcases own_form h with ⟨_, h0⟩ | ⟨g, cap, hv, hg, _⟩
  · omega
  · cases hv
    exact ⟨g, rfl, hg, own_RouteAt h⟩
theorem Same.one {w W : World} {n : Nat} (h : Same (fun b => b = n) w W) (i : Nat) (v : Value) : Same (fun b => b = n) w (W.setCell ⟨n, i, none⟩ v) := h.set _ _ (fun _ => rfl)
theorem conf_put (w : World) (n : Nat) (st : St) (A1 : Option Addr) (n1 c1 : Nat) (A2 : Option Addr) (n2 c2 : Nat) (A3 : Option Addr) (n3 c3 : Nat) (h : Blk w n confZ 28) :
    ∃ W, (((((((((((((((w.setCell ⟨n, 0, none⟩ (.int .i64 (st 0).a)).setCell ⟨n, 1, none⟩ (.int .i64 (st 1).a)).setCell ⟨n, 2, none⟩ (.int .i64 (st 5).a)).setCell ⟨n, 3, none⟩ (.int .i64 (st 5).b)).setCell ⟨n, 4, none⟩ (.int .i64 (st 2).a)).setCell ⟨n, 5, none⟩ (.int .i64 (st 3).a)).setCell ⟨n, 6, none⟩ (.int .i64 (st 4).a)).setCell ⟨n, 7, none⟩ (.string (st 6).t)).setCell ⟨n, 8, none⟩ (.int .i64 (st 6).a)).setCell ⟨n, 9, none⟩ (.int .i64 (st 6).b)).setCell ⟨n, 10, none⟩ (.string (st 7).t)).setCell ⟨n, 11, none⟩ (.bool (st 7).m)).setCell ⟨n, 12, none⟩ (.slice A1 n1 c1)).setCell ⟨n, 13, none⟩ (.slice A2 n2 c2)).setCell ⟨n, 14, none⟩ (.slice A3 n3 c3)) = W ∧ Blk W n (confS st A1 n1 c1 A2 n2 c2 A3 n3 c3) 28 ∧ Same (fun b => b = n) w W := by
  have hb := (((((((((((((((h.set 0 (.int .i64 (st 0).a)).set 1 (.int .i64 (st 1).a)).set 2 (.int .i64 (st 5).a)).set 3 (.int .i64 (st 5).b)).set 4 (.int .i64 (st 2).a)).set 5 (.int .i64 (st 3).a)).set 6 (.int .i64 (st 4).a)).set 7 (.string (st 6).t)).set 8 (.int .i64 (st 6).a)).set 9 (.int .i64 (st 6).b)).set 10 (.string (st 7).t)).set 11 (.bool (st 7).m)).set 12 (.slice A1 n1 c1)).set 13 (.slice A2 n2 c2)).set 14 (.slice A3 n3 c3))
  have e : (((((((((((((((confZ.setIfInBounds 0 (.int .i64 (st 0).a)).setIfInBounds 1 (.int .i64 (st 1).a)).setIfInBounds 2 (.int .i64 (st 5).a)).setIfInBounds 3 (.int .i64 (st 5).b)).setIfInBounds 4 (.int .i64 (st 2).a)).setIfInBounds 5 (.int .i64 (st 3).a)).setIfInBounds 6 (.int .i64 (st 4).a)).setIfInBounds 7 (.string (st 6).t)).setIfInBounds 8 (.int .i64 (st 6).a)).setIfInBounds 9 (.int .i64 (st 6).b)).setIfInBounds 10 (.string (st 7).t)).setIfInBounds 11 (.bool (st 7).m)).setIfInBounds 12 (.slice A1 n1 c1)).setIfInBounds 13 (.slice A2 n2 c2)).setIfInBounds 14 (.slice A3 n3 c3)) = confS st A1 n1 c1 A2 n2 c2 A3 n3 c3 := by
    unfold confS confZ
    simp
  rw [e] at hb
  exact ⟨_, rfl, hb, ((((((((((((((((Same.refl _ w).one 0 _).one 1 _).one 2 _).one 3 _).one 4 _).one 5 _).one 6 _).one 7 _).one 8 _).one 9 _).one 10 _).one 11 _).one 12 _).one 13 _).one 14 _)⟩
/-- How Parse ends. -/
def ParseR (w w' : World) (e : Ending) (r : Option St × Int × Int) : Prop :=
  Below w.heap.size w w' ∧ ∃ C, e = .returned (.tuple #[.agg C, .int .i64 r.2.1, .int .i64 r.2.2]) ∧ ConfOf w' C r.1

set_option maxRecDepth 100000 in
set_option maxHeartbeats 4000000 in
theorem parse_calls (b cap : Nat) (s : ByteArray) (w : World) (hsz : s.size ≤ 16384) (hbl : b < w.heap.size) (hb : ∀ j (hj : j < s.size), w.cell? ⟨b, j, none⟩ = some (.int .u8 (s[j].toNat : Int))) (hL : LaidW w) :
    Calls Tryz.prog 7 #[.slice (some ⟨b, 0, none⟩) s.size cap] w fun e w' => ParseR w w' e (parseV s) := by
  have hmm := @run_makeMap Tryz.prog
  have hlen : decide (16384 < (s.size : Int)) = false := decide_eq_false (by omega)
  have hpv : parseV s = ends finB none (runL act (asTexts (cuts 10 s.data.toList)) 0 st0) := by
    unfold parseV
    rw [if_neg (by omega)]
    rfl
  have HPV := Lib.hid hpv
  have HB := Lib.hid hb
  have HL := Lib.hid hL
  clear hb hL hpv
  refine (callsIn_wide (n := 3)).1 (callsIn_of_wp_marks Tryz.func7 rfl trivial ?_)
  simp only [Tryz.ntmps7, List.size_toArray, List.length_cons, List.length_nil, Nat.reduceAdd, Nat.reduceSub, Array.replicate_succ, Array.replicate_zero, List.push_toArray, List.append_toArray, List.nil_append, List.cons_append]
  rw [wpIn_wide]
  go_wp2_with fail
  refine (lines_calls _).mono ?_
  rintro e WL ⟨rfl, bl, zl, hl⟩
  have k0 : Blk WL w.heap.size confZ 28 := Blk.below ((((((Blk.new w confZ 28).alloc _).alloc _).alloc _).alloc _).alloc _) bl (by simp only [World.size_alloc]; omega)
  have k1 : Blk WL (w.alloc _).heap.size #[.int .i64 0] 3 := Blk.below (((((Blk.new (w.alloc _) #[.int .i64 0] 3).alloc _).alloc _).alloc _).alloc _) bl (by simp only [World.size_alloc]; omega)
  have k2 : Blk WL ((w.alloc _).alloc _).heap.size #[.int .i64 0] 29 := Blk.below ((((Blk.new ((w.alloc _).alloc _) #[.int .i64 0] 29).alloc _).alloc _).alloc _) bl (by simp only [World.size_alloc]; omega)
  have k3 : WL.heap[w.heap.size + 1 + 1 + 1]? = some (.map #[] 0) := by
    refine (bl.block _ (by simp only [World.size_alloc]; omega)).trans ?_
    show ((((((w.heap.push _).push _).push _).push _).push _).push _)[_]? = _
    simp only [Array.getElem?_push, Array.size_push]
    simp [Nat.add_assoc]
  have k4 : Blk WL ((((w.alloc _).alloc _).alloc _).alloc _).heap.size #[.int .i64 16, .int .i64 4096, .int .i64 100, .int .i64 100, .int .i64 10000, .int .i64 60000, .int .i64 5000, .string ⟨#[]⟩, .int .i64 0, .int .i64 0, .string ⟨#[]⟩, .bool false, .slice none 0 0, .slice none 0 0, .slice none 0 0, .map (some (w.heap.size + 1 + 1 + 1))] 59 := Blk.below ((Blk.new ((((w.alloc _).alloc _).alloc _).alloc _) #[.int .i64 16, .int .i64 4096, .int .i64 100, .int .i64 100, .int .i64 10000, .int .i64 60000, .int .i64 5000, .string ⟨#[]⟩, .int .i64 0, .int .i64 0, .string ⟨#[]⟩, .bool false, .slice none 0 0, .slice none 0 0, .slice none 0 0, .map (some (w.heap.size + 1 + 1 + 1))] 59).alloc _) bl (by simp only [World.size_alloc]; omega)
  have k5 : Blk WL (((((w.alloc _).alloc _).alloc _).alloc _).alloc _).heap.size #[.pointer (some ⟨w.heap.size + 1 + 1 + 1 + 1, 0, none⟩)] 56 := Blk.below (Blk.new (((((w.alloc _).alloc _).alloc _).alloc _).alloc _) #[.pointer (some ⟨w.heap.size + 1 + 1 + 1 + 1, 0, none⟩)] 56) bl (by simp only [World.size_alloc]; omega)
  have y0 : Below w.heap.size w WL := ((((((Below.refl _ w).alloc (Nat.le_refl _) _).alloc (by simp) _).alloc (by simp; omega) _).alloc (by simp; omega) _).alloc (by simp; omega) _).alloc (by simp; omega) _ |>.trans (bl.mono (by simp; omega))
  simp only [World.size_alloc] at k1 k2 k3 k4 k5 zl hl ⊢
  have hcv : (convert 32 9 (.slice (some ⟨b, 0, none⟩) s.size cap)).run Tryz.prog ((WL.alloc (.cells #[.map (some (w.heap.size + 1 + 1 + 1 + 1 + 1 + 1))] 60)).alloc (.cells #[.int .i64 0] 3)) = .ok (.string s) ((WL.alloc (.cells #[.map (some (w.heap.size + 1 + 1 + 1 + 1 + 1 + 1))] 60)).alloc (.cells #[.int .i64 0] 3)) := by
    have := run_convert_bytes_back (P := Tryz.prog) ((WL.alloc (.cells #[.map (some (w.heap.size + 1 + 1 + 1 + 1 + 1 + 1))] 60)).alloc (.cells #[.int .i64 0] 3)) 32 9 5 ⟨b, 0, none⟩ cap s.data.toList Tryz.underlying32 Tryz.underlying5 Tryz.underlying9 (fun j hj => by
      rw [add_off]
      exact (((y0.alloc y0.size _).alloc (by simp; have := y0.size; omega) _).cell hbl).trans (HB.out j (by simpa using hj)))
    rw [← Lib.size_eq s] at this
    exact this
  have k4 : Blk WL (w.heap.size + 1 + 1 + 1 + 1) (confC st0 (.slice none 0 0) (.slice none 0 0) (.slice none 0 0) (w.heap.size + 1 + 1 + 1)) 59 := k4
  have HY := Lib.hid (And.intro y0 (And.intro hl (And.intro k0 (And.intro k1 (And.intro k2 (And.intro k5 (And.intro zl (And.intro k3 k4))))))))
  clear bl y0 hl k0 k1 k2 k5 zl k3 k4
  go_wp2_with (go_at_call 15; refine (SplitSeq_calls _ _ _).mono ?_; rintro e w' ⟨rfl, rfl⟩)
  obtain ⟨y0, hl, k0, k1, k2, k5, zl, k3, k4⟩ := HY.out
  have b2 := ((Blk.new ((WL.alloc (.cells #[.map (some (w.heap.size + 1 + 1 + 1 + 1 + 1 + 1))] 60)).alloc (.cells #[.int .i64 0] 3)) #[.string s] 9).alloc (.cells #[.string ⟨#[10]⟩] 9)).alloc (.cells #[.int .i64 0] 3)
  obtain ⟨W0, hW0⟩ : ∃ W0, ((((WL.alloc (.cells #[.map (some (w.heap.size + 1 + 1 + 1 + 1 + 1 + 1))] 60)).alloc (.cells #[.int .i64 0] 3)).alloc (.cells #[.string s] 9)).alloc (.cells #[.string ⟨#[10]⟩] 9)).alloc (.cells #[.int .i64 0] 3) = W0 := ⟨_, rfl⟩
  have b1 : Blk W0 (WL.heap.size + 1 + 1 + 1) #[.string ⟨#[10]⟩] 9 := by
    have := (Blk.new (((WL.alloc (.cells #[.map (some (w.heap.size + 1 + 1 + 1 + 1 + 1 + 1))] 60)).alloc (.cells #[.int .i64 0] 3)).alloc (.cells #[.string s] 9)) #[.string ⟨#[10]⟩] 9).alloc (.cells #[.int .i64 0] 3)
    rw [hW0] at this
    simpa only [World.size_alloc] using this
  have b3 : Blk W0 (WL.heap.size + 1 + 1 + 1 + 1) #[.int .i64 0] 3 := by
    have := Blk.new ((((WL.alloc (.cells #[.map (some (w.heap.size + 1 + 1 + 1 + 1 + 1 + 1))] 60)).alloc (.cells #[.int .i64 0] 3)).alloc (.cells #[.string s] 9)).alloc (.cells #[.string ⟨#[10]⟩] 9)) #[.int .i64 0] 3
    rw [hW0] at this
    simpa only [World.size_alloc] using this
  have d6 : Blk W0 WL.heap.size #[.map (some (w.heap.size + 1 + 1 + 1 + 1 + 1 + 1))] 60 := by
    rw [← hW0]; exact ((((Blk.new WL _ _).alloc _).alloc _).alloc _).alloc _
  have d7 : Blk W0 (WL.heap.size + 1) #[.int .i64 0] 3 := by
    have := (((Blk.new (WL.alloc (.cells #[.map (some (w.heap.size + 1 + 1 + 1 + 1 + 1 + 1))] 60)) #[.int .i64 0] 3).alloc (.cells #[.string s] 9)).alloc (.cells #[.string ⟨#[10]⟩] 9)).alloc (.cells #[.int .i64 0] 3)
    rw [hW0] at this
    simpa only [World.size_alloc] using this
  rw [hW0] at b2 ⊢
  simp only [World.size_alloc] at b2
  have y1 : Below WL.heap.size WL W0 := by
    rw [← hW0]; exact (((((Below.refl _ WL).alloc (Nat.le_refl _) _).alloc (by simp) _).alloc (by simp; omega) _).alloc (by simp; omega) _).alloc (by simp; omega) _
  have z0 : W0.heap.size = WL.heap.size + 5 := by rw [← hW0]; simp
  have HZ0 := Lib.hid z0
  replace k0 := k0.below y1 k0.lt
  replace k1 := k1.below y1 k1.lt
  replace k2 := k2.below y1 k2.lt
  replace k3 := (y1.block _ (Array.getElem?_eq_some_iff.1 k3).1).trans k3
  replace k4 := k4.below y1 k4.lt
  replace k5 := k5.below y1 k5.lt
  replace hl := hl.below y1 (by omega) (Nat.le_refl _)
  have y : Below w.heap.size w W0 := y0.trans (y1.mono y0.size)
  have hzl : w.heap.size + 36 ≤ WL.heap.size := by omega
  have hz0 : WL.heap.size + 5 ≤ W0.heap.size := by omega
  have h8 : 8 ≤ w.heap.size := HL.out.size
  have hPA : PA w w.heap.size WL.heap.size [] W0 := {
    cnt := d7
    mp := d6
    c0 := k0
    c1 := k1
    c2 := k2
    rc := k5
    ln := hl
    be := y
    rd := ⟨st0, rfl, .slice none 0 0, .slice none 0 0, .slice none 0 0, [], #[], 0, {
      R := k4
      M := k3
      K := fun y hy => by simp at hy
      seen := fun k hk x _ => by
        refine ⟨fun h => ?_, fun ⟨y, hy, _⟩ => by simp at hy⟩
        match k, hk, h with
        | 0, _, h | 1, _, h | 2, _, h | 3, _, h | 4, _, h | 5, _, h | 6, _, h | 7, _, h => exact absurd h (by decide)
      H := World.ownsRow_nil _ _ _ _
      P := fun b hb => by simp at hb
      hh := rfl
      Bk := World.ownsRow_nil _ _ _ _
      Rt := World.ownsRow_nil _ _ _ _
      nH := by simp
      nB := by show ([] : List BackL).length ≤ 16; simp
      nR := by show ([] : List RouteL).length ≤ 16; simp
      zH := fun b hb => by simp at hb
      zR := fun b hb => by simp [st0, slot0] at hb
      ge := ⟨by omega, by omega, by omega, by omega⟩ }⟩ }
  clear hW0 y0 y1 HY hcv zl d6 d7 k0 k1 k2 k3 k4 k5 hl y z0
  refine (wpIn_wide (n := 3)).1 (wpIn_rangeSplit 10 s (by omega) _ _ _ rfl b1 b2 b3 (by omega) (by omega)
    (PA w w.heap.size WL.heap.size)
    (PAx w w.heap.size s)
    ?hI ?hIx hPA ?a1 ?assign ?body ?done ?stop)
  case assign =>
    intro l x W K hK
    gi_wp2
    exact hK
  case hI =>
    rintro pre A B hS hA
    have z0 := HZ0.out
    exact hA.same rfl hzl (hS.mono fun b _ hb => by omega)
  case hIx =>
    rintro j A B hS hA
    have z0 := HZ0.out
    exact hA.same rfl hzl (hS.mono fun b _ hb => by omega)
  case body =>
    rintro l pre x W hI ⟨rest, hr⟩ hsz2
    obtain ⟨st, hst, hrd⟩ := hI.rd
    have hcb := cuts_bound 10 s.data.toList pre rest x.data.toList hr
    have hxl : x.data.toList.length = x.size := (Lib.size_eq x).symm
    have hsl : s.data.toList.length = s.size := (Lib.size_eq s).symm
    have hxs : x.size ≤ 16385 := by omega
    have hpl : pre.length ≤ 16385 := by omega
    have q0 := hI.cnt.cell 0
    have q0f := hI.cnt.free 0
    have hwf : ∀ f, Fence.wide.fn f := fun _ => trivial
    have hwd : Fence.wide.depth.isSome = false := rfl
    have hWn : Same (fun b => b = WL.heap.size + 1 ∨ b = w.heap.size + 1 + 1 + 1 + 1 ∨ b = w.heap.size + 1 + 1 + 1 ∨ WL.heap.size + 7 ≤ b) W (W.setCell ⟨WL.heap.size + 1, 0, none⟩ (.int .i64 ((pre.length : Int) + 1))) := (Same.refl _ W).set _ _ (fun _ => .inl rfl)
    have hrdn : RdIs (W.setCell ⟨WL.heap.size + 1, 0, none⟩ (.int .i64 ((pre.length : Int) + 1))) (WL.heap.size + 7) (w.heap.size + 1 + 1 + 1 + 1) (w.heap.size + 1 + 1 + 1) st :=
      hrd.kept (S := fun b => b = WL.heap.size + 1) ((Same.refl _ W).set _ _ (fun _ => rfl)) (by omega) (by omega) (fun g hg => by omega)
    have hgood : act x = .idle → Hid (∀ a', splitPost [WL.heap.size + 1 + 1, WL.heap.size + 1 + 1 + 1, WL.heap.size + 1 + 1 + 1 + 1, W0.heap.size, W0.heap.size + 1] (PA w w.heap.size WL.heap.size (pre ++ [x.data.toList])) (PAx w w.heap.size s) W .normal a' (W.setCell ⟨WL.heap.size + 1, 0, none⟩ (.int .i64 ((pre.length : Int) + 1)))) := fun ha => Lib.hid fun a' =>
      ⟨⟨by simp [World.setCell], fun b hm => Below.heap_setCell W _ _ b (by simp at hm ⊢; omega)⟩, hI.next rfl hzl x hWn (hI.cnt.set 0 _) st (by rw [run_snoc pre x st hst, ha]; rfl) hrdn⟩
    by_cases hz : x.size = 0
    · have ha : act x = .idle := by unfold act; rw [if_pos (.inl hz)]
      have hG := hgood ha
      have he : x.toList.isEmpty = true := by
        rw [ByteArray.toList_eq, List.isEmpty_iff]
        exact List.eq_nil_of_length_eq_zero (hxl.trans hz)
      clear hgood hI hrd hWn hrdn hst hr hcb ha
      gi_wp2
      exact hG.out _
    · have he : x.toList.isEmpty = false := by
        rw [ByteArray.toList_eq, Bool.eq_false_iff]
        intro h
        rw [List.isEmpty_iff] at h
        rw [h] at hxl
        exact hz hxl.symm
      have hpos : 0 < x.size := Nat.pos_of_ne_zero hz
      have hhead : x.data.toList.head? = some x[0] := by
        rw [List.head?_eq_getElem?, List.getElem?_eq_getElem (by rw [hxl]; exact hpos)]
        rfl
      cases h35 : ((x[0].toNat : Int) == 35) with
      | true =>
        have ha : act x = .idle := by
          have h35' : x[0] = 35 := UInt8.toNat_inj.1 (by have := beq_iff_eq.1 h35; simp; omega)
          unfold act
          rw [if_pos (.inr (by rw [hhead, h35']))]
        have hG := hgood ha
        clear hgood hI hrd hWn hrdn hst hr hcb ha hhead
        gi_wp2
        exact hG.out _
      | false =>
        have hact : act x = actW (wordsOf x) := by
          unfold act
          rw [if_neg]
          rintro (h | h)
          · exact hz h
          · rw [hhead] at h
            rw [Option.some.inj h] at h35
            exact absurd h35 (by decide)
        have hLn : LaidW (W.setCell ⟨WL.heap.size + 1, 0, none⟩ (.int .i64 ((pre.length : Int) + 1))) := HL.out.below (hI.be.setCell (p := ⟨WL.heap.size + 1, 0, none⟩) (by simp; omega) _) h8
        have hln : LinesAt (W.setCell ⟨WL.heap.size + 1, 0, none⟩ (.int .i64 ((pre.length : Int) + 1))) (w.heap.size + 1 + 1 + 1 + 1 + 1 + 1) := hI.ln.kept hWn (fun b h1 h2 => by omega)
        have hsaid := said_calls (WL.heap.size + 7) _ (w.heap.size + 1 + 1 + 1 + 1) (w.heap.size + 1 + 1 + 1) st x _ (by omega) hln (by omega) hLn hrdn (by have z0 := HZ0.out; simp [World.setCell]; omega)
        rw [← hact] at hsaid
        have c5 := (hI.rc.other ⟨WL.heap.size + 1, 0, none⟩ (.int .i64 ((pre.length : Int) + 1)) (by simp; omega)).cell 0
        have c6 := (hI.mp.other ⟨WL.heap.size + 1, 0, none⟩ (.int .i64 ((pre.length : Int) + 1)) (by simp)).cell 0
        have hsub : ∀ w2, Same (fun b => b = w.heap.size + 1 + 1 + 1 + 1 ∨ b = w.heap.size + 1 + 1 + 1 ∨ WL.heap.size + 7 ≤ b) (W.setCell ⟨WL.heap.size + 1, 0, none⟩ (.int .i64 ((pre.length : Int) + 1))) w2 → Same (fun b => b = WL.heap.size + 1 ∨ b = w.heap.size + 1 + 1 + 1 + 1 ∨ b = w.heap.size + 1 + 1 + 1 ∨ WL.heap.size + 7 ≤ b) W w2 := fun w2 h2 => hWn.trans (h2.mono fun b _ hb => .inr hb)
        cases hrun : (act x).run st with
        | ok st' =>
          have hS : Calls Tryz.prog 16 #[.pointer (some ⟨w.heap.size + 1 + 1 + 1 + 1, 0, none⟩), .map (some (w.heap.size + 1 + 1 + 1 + 1 + 1 + 1)), .string x] (W.setCell ⟨WL.heap.size + 1, 0, none⟩ (.int .i64 ((pre.length : Int) + 1))) fun e w2 => e = .returned (.int .i64 0) ∧
              ∀ a', splitPost [WL.heap.size + 1 + 1, WL.heap.size + 1 + 1 + 1, WL.heap.size + 1 + 1 + 1 + 1, W0.heap.size, W0.heap.size + 1] (PA w w.heap.size WL.heap.size (pre ++ [x.data.toList])) (PAx w w.heap.size s) W .normal a' w2 := by
            refine hsaid.mono ?_
            rintro e w2 ⟨h2, h3⟩
            rw [hrun] at h3
            obtain ⟨rfl, h4⟩ := h3
            refine ⟨rfl, fun a' => ⟨KeepAt.of_same (hsub w2 h2) ?_, ?_⟩⟩
            · intro b hm
              have z0 := HZ0.out
              simp only [List.mem_cons, List.not_mem_nil, or_false] at hm
              rcases hm with rfl | rfl | rfl | rfl | rfl <;> omega
            · exact hI.next rfl hzl x (hsub w2 h2) ((hI.cnt.set 0 _).kept h2 (by omega)) st' (by rw [run_snoc pre x st hst, hrun]) h4
          have HS := Lib.hid hS
          clear hgood hI hrd hWn hrdn hst hr hcb hhead hact hLn hln hsaid hsub hrun hS
          gi_wp2_with (gi_at_call 16; refine (CallsIn.inRound l (callsIn_wide.2 HS.out)).mono ?_; rintro e w2 ⟨rfl, hG⟩)
          exact hG _
        | error c =>
          have hS : Calls Tryz.prog 16 #[.pointer (some ⟨w.heap.size + 1 + 1 + 1 + 1, 0, none⟩), .map (some (w.heap.size + 1 + 1 + 1 + 1 + 1 + 1)), .string x] (W.setCell ⟨WL.heap.size + 1, 0, none⟩ (.int .i64 ((pre.length : Int) + 1))) fun e w2 => e = .returned (.int .i64 c) ∧ Blk w2 (WL.heap.size + 1) #[.int .i64 ((pre.length : Int) + 1)] 3 ∧ Blk w2 w.heap.size confZ 28 ∧ Blk w2 (w.heap.size + 1) #[.int .i64 0] 3 ∧ Blk w2 (w.heap.size + 1 + 1) #[.int .i64 0] 29 ∧
              Hid (∀ a', splitPost [WL.heap.size + 1 + 1, WL.heap.size + 1 + 1 + 1, WL.heap.size + 1 + 1 + 1 + 1, W0.heap.size, W0.heap.size + 1] (PA w w.heap.size WL.heap.size (pre ++ [x.data.toList])) (PAx w w.heap.size s) W .ret a' (((w2.setCell ⟨w.heap.size + 1, 0, none⟩ (.int .i64 ((pre.length : Int) + 1))).setCell ⟨w.heap.size + 1 + 1, 0, none⟩ (.int .i64 c)).drew)) := by
            refine hsaid.mono ?_
            rintro e w2 ⟨h2, h3⟩
            rw [hrun] at h3
            obtain rfl := h3
            have g0 := hI.c0.kept (hsub w2 h2) (by omega)
            have g1 := hI.c1.kept (hsub w2 h2) (by omega)
            have g2 := hI.c2.kept (hsub w2 h2) (by omega)
            refine ⟨rfl, (hI.cnt.set 0 _).kept h2 (by omega), g0, g1, g2, Lib.hid fun a' => ⟨?_, rfl, _, c, ?_, (g0.other _ _ (by simp)).other _ _ (by simp; omega), (g1.set 0 _).other _ _ (by simp), (g2.other _ _ (by simp)).set 0 _, ?_⟩⟩
            · refine KeepAt.of_same (S := fun b => b = w.heap.size + 1 ∨ b = w.heap.size + 1 + 1 ∨ (b = WL.heap.size + 1 ∨ b = w.heap.size + 1 + 1 + 1 + 1 ∨ b = w.heap.size + 1 + 1 + 1 ∨ WL.heap.size + 7 ≤ b)) ((((hsub w2 h2).mono fun b _ hb => .inr (.inr hb)).set _ _ (fun _ => .inl rfl)).set _ _ (fun _ => .inr (.inl rfl))).drew ?_
              intro b hm
              have z0 := HZ0.out
              simp only [List.mem_cons, List.not_mem_nil, or_false] at hm
              rcases hm with rfl | rfl | rfl | rfl | rfl <;> omega
            · show runL act (asTexts (cuts 10 s.data.toList)) 0 st0 = _
              rw [hr]
              exact run_whole pre rest x st hst c hrun
            · exact (((hI.be.trans ((hsub w2 h2).below _ hI.be.size (by omega))).setCell (by simp) _).setCell (by simp; omega) _).drew
          have hcz : (c == 0) = false := by simpa using act_nz hrun
          have HS := Lib.hid hS
          clear hgood hI hrd hWn hrdn hst hr hcb hhead hact hLn hln hsaid hsub hrun hS
          have hmx : Tryz.prog.follows .mixedOrders = true := by kernel_rfl
          gi_wp2_with (gi_at_call 16; refine (CallsIn.inRound l (callsIn_wide.2 HS.out)).mono ?_; rintro e w2 ⟨rfl, j0, j1, j2, j3, hG⟩; have r0 := j0.cell 0; have f2 := fun i => j1.free i; have r2 := fun i => j1.cell i; have r3 := j2.cell 0; have f3 := j2.free 0; have r4 := j3.cell 0; have f4 := j3.free 0)
          simp only [confZ] at r2
          have g2' := Lib.hid j1
          clear j0 j1 j2 j3
          gi_region_with_o (fail)
          all_goals gi_wp2
          all_goals first
            | rw [conf_again w2 _ g2'.out]; exact hG.out _
            | rw [conf_again (w2.setCell ⟨w.heap.size + 1, 0, none⟩ (.int .i64 ((pre.length : Int) + 1))) _ (g2'.out.other _ _ (by simp))]; exact hG.out _
            | rw [conf_again ((w2.setCell ⟨w.heap.size + 1, 0, none⟩ (.int .i64 ((pre.length : Int) + 1))).setCell ⟨w.heap.size + 1 + 1, 0, none⟩ (.int .i64 c)) _ ((g2'.out.other _ _ (by simp)).other _ _ (by simp; omega))]; exact hG.out _
  case stop =>
    rintro j W ⟨rfl, k, c, hr, i0, i1, i2, i3⟩ hD
    have z0 := HZ0.out
    have q1 := i1.cell 0
    have q2 := i2.cell 0
    have p0 : Blk (W.putObj W0.heap.size (.deferred none)) w.heap.size confZ 28 := i0.put _ _ (by omega)
    have p1 : Blk (W.putObj W0.heap.size (.deferred none)) (w.heap.size + 1) #[.int .i64 k] 3 := i1.put _ _ (by omega)
    have p2 : Blk (W.putObj W0.heap.size (.deferred none)) (w.heap.size + 1 + 1) #[.int .i64 c] 29 := i2.put _ _ (by omega)
    clear z0
    gi_wp2
    refine ⟨by simp, .inl ⟨_, _, rfl, run_takeDeferred hD, ?_⟩⟩
    refine ⟨.tuple #[.agg confZ, .int .i64 k, .int .i64 c], ?_, ?_, ?_⟩
    · have c0 := fun i => p0.cell i
      simp only [confZ] at c0
      have c1 := p1.cell 0
      have c2 := p2.cell 0
      simp [results, Tryz.results7, go_sem, c0, c1, c2, confZ]
    · exact (Same.put (S := fun b => w.heap.size ≤ b) (Same.ofBelow i3) _ _ (fun _ => Nat.le_trans (Nat.le_trans (Nat.le_add_right _ 36) hzl) (Nat.le_trans (Nat.le_add_right _ 5) hz0))).below _ (Nat.le_refl _) (fun _ h => h)
    · rw [HPV.out, show runL act (asTexts (cuts 10 s.data.toList)) 0 st0 = .error (k, c) from hr]
      exact ⟨confZ, rfl, rfl⟩
  case done =>
    rintro W hA hD
    obtain ⟨st, hst, hv, bv, rv, hs, es, clk, D⟩ := hA.rd
    obtain ⟨A1, c1, rfl⟩ := own_any D.H
    obtain ⟨A2, c2, rfl⟩ := own_any D.Bk
    obtain ⟨A3, c3, rfl⟩ := own_any D.Rt
    have hRW := D.R
    have t0 := hA.rc.cell 0
    have k := fun i => D.R.cell i
    simp only [confC] at k
    have hcon := containsR_calls A3 c3 (st 10).rs 18 ⟨w.heap.size + 1 + 1 + 1 + 1 + 1, 0, none⟩ (fun x => !(st 9).bs.any fun b => decide (b.name.data = x.backend.data)) W (by have := D.nR; omega) (own_routes D.Rt) (enters_of Tryz.func18 (by kernel_rfl) rfl)
      (fun V b hV _ => Parse1_calls st A1 hs.length c1 A2 c2 A3 (st 10).rs.length c3 (w.heap.size + 1 + 1 + 1) (st 9).bs b (w.heap.size + 1 + 1 + 1 + 1 + 1) (w.heap.size + 1 + 1 + 1 + 1) V (by have := D.nB; omega) ((own_backs D.Bk).below hV)
        ((hA.rc.below hV hA.rc.lt).cell 0) (Nat.lt_of_lt_of_le hA.rc.lt hV.size) (D.R.below hV D.R.lt))
    have HCON := Lib.hid hcon
    have HA := Lib.hid (And.intro hA (And.intro D (And.intro hst hD)))
    have lR := D.R.lt
    have lC := hA.rc.lt
    have hmf : ∀ (fn : Fn) (first cap : Array Value) (w : World), (Instr.makeFunc fn first cap).run Tryz.prog w = .ok (.func fn first cap) w := fun _ _ _ _ => rfl
    clear hcon hA D hst hD hRW
    gi_wp2
    go_wp2_with fail
    refine HCON.out.mono ?_
    rintro e w1 ⟨rfl, B1⟩
    obtain ⟨hA, D, hst, hD⟩ := HA.out
    have HST := Lib.hid hst
    have g0 := Lib.hid (hA.c0.below B1 hA.c0.lt)
    have HG := Lib.hid (And.intro (hA.c1.below B1 hA.c1.lt) (And.intro (hA.c2.below B1 hA.c2.lt) (And.intro ((B1.block _ (Array.getElem?_eq_some_iff.1 hD).1).trans hD) (hA.be.trans (B1.mono hA.be.size)))))
    have t1 := (hA.rc.below B1 hA.rc.lt).cell 0
    have k1 := fun i => (D.R.below B1 D.R.lt).cell i
    have f0 := fun i => g0.out.free i
    have v0 := fun i => g0.out.cell i
    have f1 := HG.out.1.free 0
    have f2 := HG.out.2.1.free 0
    have v1 := HG.out.1.cell 0
    have v2 := HG.out.2.1.cell 0
    have HD := Lib.hid (And.intro D B1)
    have hhe : (st 8).hs.isEmpty = (hs.length == 0) := by
      rw [← D.hh]
      cases hs <;> rfl
    have hbe : (st 9).bs.isEmpty = ((st 9).bs.length == 0) := by cases (st 9).bs <;> rfl
    have HE := Lib.hid (And.intro hhe hbe)
    simp only [confC] at k1
    simp only [confZ] at v0
    obtain ⟨ls, hls⟩ : ∃ ls, (st 10).rs.any (fun x => !(st 9).bs.any fun b => decide (b.name.data = x.backend.data)) = ls := ⟨_, rfl⟩
    have HLS := Lib.hid (show lost st = ls from hls)
    rw [hls]
    clear hA D hst hD hls hhe hbe k t0 HCON
    dsimp only
    by_cases h1 : hs.length = 0
    · have e1 : ((hs.length : Int) == 0) = true := by rw [h1]; rfl
      have hfin : finB st = (none, 229) := by
        unfold finB
        rw [if_pos (by rw [HE.out.1, h1]; rfl)]
      have Z0 := ((g0.out.other ⟨w.heap.size + 1, 0, none⟩ (.int .i64 0) (by simp)).other ⟨w.heap.size + 1 + 1, 0, none⟩ (.int .i64 229) (by simp; omega)).put W0.heap.size (.deferred none) (by have z0 := HZ0.out; omega)
      have Z1 := (((HG.out.1.set 0 (.int .i64 0)).other ⟨w.heap.size + 1 + 1, 0, none⟩ (.int .i64 229) (by simp)).put W0.heap.size (.deferred none) (by have z0 := HZ0.out; omega)).cell 0
      have Z2 := (((HG.out.2.1.other ⟨w.heap.size + 1, 0, none⟩ (.int .i64 0) (by simp)).set 0 (.int .i64 229)).put W0.heap.size (.deferred none) (by have z0 := HZ0.out; omega)).cell 0
      have hDZ : ((w1.setCell ⟨w.heap.size + 1, 0, none⟩ (.int .i64 0)).setCell ⟨w.heap.size + 1 + 1, 0, none⟩ (.int .i64 229)).heap[W0.heap.size]? = some (.deferred (some [])) := (Below.heap_setCell _ _ _ _ (by have z0 := HZ0.out; simp; omega)).trans ((Below.heap_setCell _ _ _ _ (by have z0 := HZ0.out; simp; omega)).trans HG.out.2.2.1)
      have Z0c := fun i => Z0.cell i
      simp only [confZ] at Z0c
      clear Z0
      go_wp2
      rw [conf_again w1 _ g0.out]
      refine ⟨by simp, .inl ⟨_, _, rfl, run_takeDeferred hDZ, ?_⟩⟩
      refine ⟨.tuple #[.agg confZ, .int .i64 0, .int .i64 229], ?_, ?_, ?_⟩
      · simp [results, Tryz.results7, go_sem, Z0c, Z1, Z2, confZ]
      · exact ((((Same.ofBelow HG.out.2.2.2).set _ _ (fun _ => by simp)).set _ _ (fun _ => by simp; omega)).put _ _ (fun _ => by have z0 := HZ0.out; omega)).below _ (Nat.le_refl _) (fun _ h => h)
      · rw [HPV.out, HST.out]
        show ∃ C, _
        rw [show ends finB none (.ok st) = ((finB st).1, 0, (finB st).2) from rfl, hfin]
        exact ⟨confZ, rfl, rfl⟩
    · have e1 : ((hs.length : Int) == 0) = false := by simpa using h1
      by_cases h2 : (st 9).bs.length = 0
      · have e2 : (((st 9).bs.length : Int) == 0) = true := by rw [h2]; rfl
        have hfin : finB st = (none, 229) := by
          unfold finB
          rw [if_pos (by rw [HE.out.2, h2]; simp)]
        have Z0 := ((g0.out.other ⟨w.heap.size + 1, 0, none⟩ (.int .i64 0) (by simp)).other ⟨w.heap.size + 1 + 1, 0, none⟩ (.int .i64 229) (by simp; omega)).put W0.heap.size (.deferred none) (by have z0 := HZ0.out; omega)
        have Z1 := (((HG.out.1.set 0 (.int .i64 0)).other ⟨w.heap.size + 1 + 1, 0, none⟩ (.int .i64 229) (by simp)).put W0.heap.size (.deferred none) (by have z0 := HZ0.out; omega)).cell 0
        have Z2 := (((HG.out.2.1.other ⟨w.heap.size + 1, 0, none⟩ (.int .i64 0) (by simp)).set 0 (.int .i64 229)).put W0.heap.size (.deferred none) (by have z0 := HZ0.out; omega)).cell 0
        have hDZ : ((w1.setCell ⟨w.heap.size + 1, 0, none⟩ (.int .i64 0)).setCell ⟨w.heap.size + 1 + 1, 0, none⟩ (.int .i64 229)).heap[W0.heap.size]? = some (.deferred (some [])) := (Below.heap_setCell _ _ _ _ (by have z0 := HZ0.out; simp; omega)).trans ((Below.heap_setCell _ _ _ _ (by have z0 := HZ0.out; simp; omega)).trans HG.out.2.2.1)
        have Z0c := fun i => Z0.cell i
        simp only [confZ] at Z0c
        clear Z0
        go_wp2
        rw [conf_again w1 _ g0.out]
        refine ⟨by simp, .inl ⟨_, _, rfl, run_takeDeferred hDZ, ?_⟩⟩
        refine ⟨.tuple #[.agg confZ, .int .i64 0, .int .i64 229], ?_, ?_, ?_⟩
        · simp [results, Tryz.results7, go_sem, Z0c, Z1, Z2, confZ]
        · exact ((((Same.ofBelow HG.out.2.2.2).set _ _ (fun _ => by simp)).set _ _ (fun _ => by simp; omega)).put _ _ (fun _ => by have z0 := HZ0.out; omega)).below _ (Nat.le_refl _) (fun _ h => h)
        · rw [HPV.out, HST.out]
          show ∃ C, _
          rw [show ends finB none (.ok st) = ((finB st).1, 0, (finB st).2) from rfl, hfin]
          exact ⟨confZ, rfl, rfl⟩
      · have e2 : (((st 9).bs.length : Int) == 0) = false := by simpa using h2
        cases ls with
        | true =>
          have hfin : finB st = (none, 229) := by
            unfold finB
            rw [if_pos (by rw [HLS.out]; simp)]
          have Z0 := ((g0.out.other ⟨w.heap.size + 1, 0, none⟩ (.int .i64 0) (by simp)).other ⟨w.heap.size + 1 + 1, 0, none⟩ (.int .i64 229) (by simp; omega)).put W0.heap.size (.deferred none) (by have z0 := HZ0.out; omega)
          have Z1 := (((HG.out.1.set 0 (.int .i64 0)).other ⟨w.heap.size + 1 + 1, 0, none⟩ (.int .i64 229) (by simp)).put W0.heap.size (.deferred none) (by have z0 := HZ0.out; omega)).cell 0
          have Z2 := (((HG.out.2.1.other ⟨w.heap.size + 1, 0, none⟩ (.int .i64 0) (by simp)).set 0 (.int .i64 229)).put W0.heap.size (.deferred none) (by have z0 := HZ0.out; omega)).cell 0
          have hDZ : ((w1.setCell ⟨w.heap.size + 1, 0, none⟩ (.int .i64 0)).setCell ⟨w.heap.size + 1 + 1, 0, none⟩ (.int .i64 229)).heap[W0.heap.size]? = some (.deferred (some [])) := (Below.heap_setCell _ _ _ _ (by have z0 := HZ0.out; simp; omega)).trans ((Below.heap_setCell _ _ _ _ (by have z0 := HZ0.out; simp; omega)).trans HG.out.2.2.1)
          have Z0c := fun i => Z0.cell i
          simp only [confZ] at Z0c
          clear Z0
          go_wp2
          rw [conf_again w1 _ g0.out]
          refine ⟨by simp, .inl ⟨_, _, rfl, run_takeDeferred hDZ, ?_⟩⟩
          refine ⟨.tuple #[.agg confZ, .int .i64 0, .int .i64 229], ?_, ?_, ?_⟩
          · simp [results, Tryz.results7, go_sem, Z0c, Z1, Z2, confZ]
          · exact ((((Same.ofBelow HG.out.2.2.2).set _ _ (fun _ => by simp)).set _ _ (fun _ => by simp; omega)).put _ _ (fun _ => by have z0 := HZ0.out; omega)).below _ (Nat.le_refl _) (fun _ h => h)
          · rw [HPV.out, HST.out]
            show ∃ C, _
            rw [show ends finB none (.ok st) = ((finB st).1, 0, (finB st).2) from rfl, hfin]
            exact ⟨confZ, rfl, rfl⟩
        | false =>
          go_wp2
          obtain ⟨WP, hWP, hP1, hP2⟩ := conf_put w1 w.heap.size st A1 hs.length c1 A2 (st 9).bs.length c2 A3 (st 10).rs.length c3 g0.out
          rw [hWP]
          have z0 := HZ0.out
          have hfin : finB st = (some st, 0) := by
            unfold finB
            rw [if_neg]
            rw [HE.out.1, HE.out.2, HLS.out, beq_eq_false_iff_ne.2 h1, beq_eq_false_iff_ne.2 h2]
            decide
          have j1 := HG.out.1.kept hP2 (by omega)
          have j2 := HG.out.2.1.kept hP2 (by omega)
          have Z0 := ((hP1.other ⟨w.heap.size + 1, 0, none⟩ (.int .i64 0) (by simp)).other ⟨w.heap.size + 1 + 1, 0, none⟩ (.int .i64 0) (by simp; omega)).put W0.heap.size (.deferred none) (by omega)
          have Z1 := (((j1.set 0 (.int .i64 0)).other ⟨w.heap.size + 1 + 1, 0, none⟩ (.int .i64 0) (by simp)).put W0.heap.size (.deferred none) (by omega)).cell 0
          have Z2 := (((j2.other ⟨w.heap.size + 1, 0, none⟩ (.int .i64 0) (by simp)).set 0 (.int .i64 0)).put W0.heap.size (.deferred none) (by omega)).cell 0
          have hDZ : ((WP.setCell ⟨w.heap.size + 1, 0, none⟩ (.int .i64 0)).setCell ⟨w.heap.size + 1 + 1, 0, none⟩ (.int .i64 0)).heap[W0.heap.size]? = some (.deferred (some [])) := (Below.heap_setCell _ _ _ _ (by simp; omega)).trans ((Below.heap_setCell _ _ _ _ (by simp; omega)).trans ((hP2.block _ (Array.getElem?_eq_some_iff.1 HG.out.2.2.1).1 (by omega)).trans HG.out.2.2.1))
          have Z0c := fun i => Z0.cell i
          simp only [confS] at Z0c
          have hS : Same (fun b => b = w.heap.size ∨ b = w.heap.size + 1 ∨ b = w.heap.size + 1 + 1 ∨ b = W0.heap.size) w1 (((WP.setCell ⟨w.heap.size + 1, 0, none⟩ (.int .i64 0)).setCell ⟨w.heap.size + 1 + 1, 0, none⟩ (.int .i64 0)).putObj W0.heap.size (.deferred none)) :=
            (((hP2.mono fun b _ hb => .inl hb).set _ _ (fun _ => .inr (.inl rfl))).set _ _ (fun _ => .inr (.inr (.inl rfl)))).put _ _ (fun _ => .inr (.inr (.inr rfl)))
          have hfar : ∀ g, WL.heap.size + 7 ≤ g → ¬ (g = w.heap.size ∨ g = w.heap.size + 1 ∨ g = w.heap.size + 1 + 1 ∨ g = W0.heap.size) := fun g hg => by omega
          obtain ⟨D, B1⟩ := HD.out
          refine ⟨by simp, .inl ⟨_, _, rfl, run_takeDeferred hDZ, ?_⟩⟩
          refine ⟨.tuple #[.agg (confS st A1 hs.length c1 A2 (st 9).bs.length c2 A3 (st 10).rs.length c3), .int .i64 0, .int .i64 0], ?_, ?_, ?_⟩
          · simp [results, Tryz.results7, go_sem, Z0c, Z1, Z2, confS]
          · exact ((Same.ofBelow HG.out.2.2.2).trans (hS.mono fun b _ hb => by omega)).below _ (Nat.le_refl _) (fun _ h => h)
          · rw [HPV.out, HST.out]
            show ∃ C, _
            rw [show ends finB none (.ok st) = ((finB st).1, 0, (finB st).2) from rfl, hfin]
            exact ⟨_, rfl, A1, c1, A2, c2, A3, c3, hs, {
              C := rfl
              H := own_base (own_kept (own_below D.H B1) hS hfar) (Nat.zero_le _)
              P := fun b hb => own_base (own_kept (own_below (D.P b hb) B1) hS hfar) (Nat.zero_le _)
              hh := D.hh
              Bk := own_base (own_kept (own_below D.Bk B1) hS hfar) (Nat.zero_le _)
              Rt := own_base (own_kept (own_below D.Rt B1) hS hfar) (Nat.zero_le _)
              nH := D.nH
              nB := D.nB
              nR := D.nR }⟩
end Go.Proofs.YtjokcflpjpophaaGreatDoor
