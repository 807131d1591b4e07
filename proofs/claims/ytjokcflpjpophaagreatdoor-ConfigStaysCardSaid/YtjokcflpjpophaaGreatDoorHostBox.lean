/- What the walk of (reader).host keeps: its box, its marks, its temporaries. Definitions and what of them the walk needs; no condition but what each theorem names. -/
import Derived.Test.YtjokcflpjpophaaGreatDoorRouteL
import Derived.Test.YtjokcflpjpophaaGreatDoorRangeE
import Derived.Test.YtjokcflpjpophaaGreatDoorFits
import Derived.Maps.OwnIn
namespace Go.Proofs.YtjokcflpjpophaaGreatDoor
open Go.RowKit
attribute [local go_sem ↓] Go.wp_at_zero Go.wp_at_succ

/-- A host's protocols lie in memory. -/
def ProtoAt (B : Nat) (w : World) (b : HostV) : Prop := w.ownsRow B 9 1 b.2 b.1.protocols.length (b.1.protocols.map Value.string)

/-- How a line of a host ends. -/
def RowH (w w' : World) (B rb sm : Nat) (hv : Value) (C : Array Value) (es : Array MapEntry) (clk : Nat) (e : Ending) (r : Except Int (List HostL)) : Prop :=
  Same (fun b => b = rb ∨ b = sm ∨ hv.ownBlock = some b) w w' ∧ match r with
    | .error k => e = .panicked [{ v := .iface 29 (.int .i64 k), recovered := false }]
    | .ok l => e = .returned (.tuple #[]) ∧ ∃ (v' : Value) (l' : List HostV), l'.map Prod.fst = l ∧ (∀ b ∈ l', ProtoAt B w' b) ∧ Blk w' rb (C.setIfInBounds 12 v') 59 ∧ w'.heap[sm]? = some (.map es clk) ∧ w'.ownsRow B 72 5 v' l'.length (l'.flatMap hostCells)

theorem Same.thru {S S' : Nat → Prop} {A B C : World} (h : Same S A B) (k : Same S' B C) (hS : ∀ b, b < A.heap.size → S' b → S b) : Same S A C :=
  ⟨k.os.trans h.os, k.tape.trans h.tape, k.output.trans h.output, Nat.le_trans h.size k.size, fun b hb hn => (k.block b (Nat.lt_of_lt_of_le hb h.size) (fun hs => hn (hS b hb hs))).trans (h.block b hb hn)⟩
theorem Stage.far {w0 W W' : World} {rb sm ww clk : Nat} {C : Array Value} {es : Array MapEntry} {xs : List ByteArray} {S : Nat → Prop} (h : Stage w0 W rb sm ww C es clk xs) (hs : Same S W W') (h8 : 8 ≤ w0.heap.size) (hS : ∀ b, S b → w0.heap.size ≤ b ∧ b ≠ rb ∧ b ≠ sm ∧ b ≠ ww) : Stage w0 W' rb sm ww C es clk xs where
  S := h.S.thru hs (fun b hb hn => absurd (hS b hn).1 (by omega))
  R := h.R.same (hs.block rb h.rlt (fun e => (hS _ e).2.1 rfl))
  M := (hs.block sm h.mlt (fun e => (hS _ e).2.2.1 rfl)).trans h.M
  K := h.K
  C15 := h.C15
  L := h.L.same hs (fun b e => Nat.le_trans h8 (hS b e).1)
  words := fun i x hx => hs.cell (p := ⟨ww, i, none⟩) h.wlt (fun e => (hS _ e).2.2.2 rfl) (h.words i x hx)
  wlt := Nat.lt_of_lt_of_le h.wlt hs.size
  ne1 := h.ne1
  ne2 := h.ne2
  ge := h.ge

/-- The activation bears no deferred call, or one mark whose block holds none. -/
def MarkOK (B : Nat) (D : List Deferred) (W : World) : Prop := D = [] ∨ ∃ r, B ≤ r ∧ D = [{ target := .collected r, args := #[] }] ∧ W.heap[r]? = some (.deferred (some []))
/-- The mark's block is shut. -/
def Shut (B : Nat) (W W' : World) : Prop := W' = W ∨ ∃ r, B ≤ r ∧ W.heap[r]? = some (.deferred (some [])) ∧ W' = W.putObj r (.deferred none)
theorem leaves_mark {B : Nat} {fn : Func} {tmps : Array Value} {R : Ending → World → Prop} {D : List Deferred} {u : FrameMode} {W : World} (h : MarkOK B D W) (hu : u ≠ .run)
    (hR : ∀ W', Shut B W W' → LeavesIn Fence.wide 0 Tryz.prog fn tmps R [] u W') : LeavesInM Fence.wide 0 Tryz.prog fn tmps R D u W := by
  rcases h with rfl | ⟨r, hb, rfl, hr⟩
  · exact hR W (.inl rfl)
  · exact ⟨hu, .inl ⟨r, _, rfl, run_takeDeferred hr, hR _ (.inr ⟨r, hb, hr, rfl⟩)⟩⟩
theorem MarkOK.same {B : Nat} {D : List Deferred} {W W' : World} {S : Nat → Prop} (h : MarkOK B D W) (hs : Same S W W') (hS : ∀ b, S b → W.heap[b]? = some (.deferred (some [])) → False) : MarkOK B D W' := by
  rcases h with rfl | ⟨r, hb, rfl, hr⟩
  · exact .inl rfl
  · exact .inr ⟨r, hb, rfl, (hs.block r (Array.getElem?_eq_some_iff.1 hr).1 (fun e => hS r e hr)).trans hr⟩

theorem shut_same {B : Nat} {W W' : World} (h : Shut B W W') : ∃ S : Nat → Prop, Same S W W' ∧ ∀ b, S b → B ≤ b ∧ W.heap[b]? = some (.deferred (some [])) := by
  rcases h with rfl | ⟨r, hb, hr, rfl⟩
  · exact ⟨fun _ => False, Same.refl _ _, fun b e => e.elim⟩
  · exact ⟨fun b => b = r, (Same.refl _ W).put r _ (fun _ => rfl), fun b e => e ▸ ⟨hb, hr⟩⟩
theorem RowH.shut {w W W' : World} {B rb sm : Nat} {hv : Value} {C : Array Value} {es : Array MapEntry} {clk : Nat} {e : Ending} {r : Except Int (List HostL)} (h : RowH w W B rb sm hv C es clk e r) (hs : Shut w.heap.size W W') : RowH w W' B rb sm hv C es clk e r := by
  obtain ⟨S, h1, h2⟩ := shut_same hs
  refine ⟨h.1.thru h1 (fun b hb e => absurd (h2 b e).1 (by omega)), ?_⟩
  have h3 := h.2
  cases r with
  | error k => exact h3
  | ok l =>
    obtain ⟨he, v', l', q1, q2, q3, q4, q5⟩ := h3
    have own : ∀ {base n size : Nat} {e : TypeId} {v : Value} {xs : List Value}, W.ownsRow base e size v n xs → W'.ownsRow base e size v n xs := fun ho =>
      own_same ho h1 (fun g c fz hg e => by have := hg.symm.trans (h2 g e).2; simp at this)
    refine ⟨he, v', l', q1, fun b hb => own (q2 b hb), ?_, ?_, own q5⟩
    · exact q3.same (h1.block rb q3.lt (fun e => by have := (show W.heap[rb]? = _ from q3).symm.trans (h2 rb e).2; simp at this))
    · exact (h1.block sm (Array.getElem?_eq_some_iff.1 q4).1 (fun e => by have := q4.symm.trans (h2 sm e).2; simp at this)).trans q4

theorem putE_map {α β : Type} (f : α → β) (l : List α) (x : α) (p : β → Bool) : putE (l.map f) (f x) p id = match putE l x (fun y => p (f y)) id with
    | .ok r => .ok (r.map f)
    | .error e => .error e := by
  unfold putE
  have h1 : (l.map f).any p = l.any (fun y => p (f y)) := by rw [List.any_map]; rfl
  rw [h1, List.length_map]
  split
  · rfl
  · split
    · rfl
    · simp

/-- The box of a line that is being read. -/
def hostBox (h : HostL) (pv : Value) : Array Value := #[.string h.name, .string h.cert, .string h.key, .string h.staple, pv]

theorem list_cons {n : Nat} : ∀ (l : List Value), l.length = n + 1 → ∃ x t, l = x :: t ∧ t.length = n
  | x :: t, h => ⟨x, t, rfl, by simpa using h⟩
theorem arr62 (T : Array Value) (h : T.size = 62) : ∃ v0 v1 v2 v3 v4 v5 v6 v7 v8 v9 v10 v11 v12 v13 v14 v15 v16 v17 v18 v19 v20 v21 v22 v23 v24 v25 v26 v27 v28 v29 v30 v31 v32 v33 v34 v35 v36 v37 v38 v39 v40 v41 v42 v43 v44 v45 v46 v47 v48 v49 v50 v51 v52 v53 v54 v55 v56 v57 v58 v59 v60 v61, T = #[v0, v1, v2, v3, v4, v5, v6, v7, v8, v9, v10, v11, v12, v13, v14, v15, v16, v17, v18, v19, v20, v21, v22, v23, v24, v25, v26, v27, v28, v29, v30, v31, v32, v33, v34, v35, v36, v37, v38, v39, v40, v41, v42, v43, v44, v45, v46, v47, v48, v49, v50, v51, v52, v53, v54, v55, v56, v57, v58, v59, v60, v61] := by
  have e : T.toList.length = 62 := by rw [Array.length_toList]; exact h
  obtain ⟨l0, hl⟩ : ∃ l, T.toList = l := ⟨_, rfl⟩
  rw [hl] at e
  obtain ⟨v0, l1, h0, e⟩ := list_cons l0 e
  obtain ⟨v1, l2, h1, e⟩ := list_cons l1 e
  obtain ⟨v2, l3, h2, e⟩ := list_cons l2 e
  obtain ⟨v3, l4, h3, e⟩ := list_cons l3 e
  obtain ⟨v4, l5, h4, e⟩ := list_cons l4 e
  obtain ⟨v5, l6, h5, e⟩ := list_cons l5 e
  obtain ⟨v6, l7, h6, e⟩ := list_cons l6 e
  obtain ⟨v7, l8, h7, e⟩ := list_cons l7 e
  obtain ⟨v8, l9, h8, e⟩ := list_cons l8 e
  obtain ⟨v9, l10, h9, e⟩ := list_cons l9 e
  obtain ⟨v10, l11, h10, e⟩ := list_cons l10 e
  obtain ⟨v11, l12, h11, e⟩ := list_cons l11 e
  obtain ⟨v12, l13, h12, e⟩ := list_cons l12 e
  obtain ⟨v13, l14, h13, e⟩ := list_cons l13 e
  obtain ⟨v14, l15, h14, e⟩ := list_cons l14 e
  obtain ⟨v15, l16, h15, e⟩ := list_cons l15 e
  obtain ⟨v16, l17, h16, e⟩ := list_cons l16 e
  obtain ⟨v17, l18, h17, e⟩ := list_cons l17 e
  obtain ⟨v18, l19, h18, e⟩ := list_cons l18 e
  obtain ⟨v19, l20, h19, e⟩ := list_cons l19 e
  obtain ⟨v20, l21, h20, e⟩ := list_cons l20 e
  obtain ⟨v21, l22, h21, e⟩ := list_cons l21 e
  obtain ⟨v22, l23, h22, e⟩ := list_cons l22 e
  obtain ⟨v23, l24, h23, e⟩ := list_cons l23 e
  obtain ⟨v24, l25, h24, e⟩ := list_cons l24 e
  obtain ⟨v25, l26, h25, e⟩ := list_cons l25 e
  obtain ⟨v26, l27, h26, e⟩ := list_cons l26 e
  obtain ⟨v27, l28, h27, e⟩ := list_cons l27 e
  obtain ⟨v28, l29, h28, e⟩ := list_cons l28 e
  obtain ⟨v29, l30, h29, e⟩ := list_cons l29 e
  obtain ⟨v30, l31, h30, e⟩ := list_cons l30 e
  obtain ⟨v31, l32, h31, e⟩ := list_cons l31 e
  obtain ⟨v32, l33, h32, e⟩ := list_cons l32 e
  obtain ⟨v33, l34, h33, e⟩ := list_cons l33 e
  obtain ⟨v34, l35, h34, e⟩ := list_cons l34 e
  obtain ⟨v35, l36, h35, e⟩ := list_cons l35 e
  obtain ⟨v36, l37, h36, e⟩ := list_cons l36 e
  obtain ⟨v37, l38, h37, e⟩ := list_cons l37 e
  obtain ⟨v38, l39, h38, e⟩ := list_cons l38 e
  obtain ⟨v39, l40, h39, e⟩ := list_cons l39 e
  obtain ⟨v40, l41, h40, e⟩ := list_cons l40 e
  obtain ⟨v41, l42, h41, e⟩ := list_cons l41 e
  obtain ⟨v42, l43, h42, e⟩ := list_cons l42 e
  obtain ⟨v43, l44, h43, e⟩ := list_cons l43 e
  obtain ⟨v44, l45, h44, e⟩ := list_cons l44 e
  obtain ⟨v45, l46, h45, e⟩ := list_cons l45 e
  obtain ⟨v46, l47, h46, e⟩ := list_cons l46 e
  obtain ⟨v47, l48, h47, e⟩ := list_cons l47 e
  obtain ⟨v48, l49, h48, e⟩ := list_cons l48 e
  obtain ⟨v49, l50, h49, e⟩ := list_cons l49 e
  obtain ⟨v50, l51, h50, e⟩ := list_cons l50 e
  obtain ⟨v51, l52, h51, e⟩ := list_cons l51 e
  obtain ⟨v52, l53, h52, e⟩ := list_cons l52 e
  obtain ⟨v53, l54, h53, e⟩ := list_cons l53 e
  obtain ⟨v54, l55, h54, e⟩ := list_cons l54 e
  obtain ⟨v55, l56, h55, e⟩ := list_cons l55 e
  obtain ⟨v56, l57, h56, e⟩ := list_cons l56 e
  obtain ⟨v57, l58, h57, e⟩ := list_cons l57 e
  obtain ⟨v58, l59, h58, e⟩ := list_cons l58 e
  obtain ⟨v59, l60, h59, e⟩ := list_cons l59 e
  obtain ⟨v60, l61, h60, e⟩ := list_cons l60 e
  obtain ⟨v61, l62, h61, e⟩ := list_cons l61 e
  obtain rfl : l62 = [] := List.eq_nil_of_length_eq_zero e
  refine ⟨v0, v1, v2, v3, v4, v5, v6, v7, v8, v9, v10, v11, v12, v13, v14, v15, v16, v17, v18, v19, v20, v21, v22, v23, v24, v25, v26, v27, v28, v29, v30, v31, v32, v33, v34, v35, v36, v37, v38, v39, v40, v41, v42, v43, v44, v45, v46, v47, v48, v49, v50, v51, v52, v53, v54, v55, v56, v57, v58, v59, v60, v61, ?_⟩
  rw [← Array.toArray_toList (xs := T), hl, h0, h1, h2, h3, h4, h5, h6, h7, h8, h9, h10, h11, h12, h13, h14, h15, h16, h17, h18, h19, h20, h21, h22, h23, h24, h25, h26, h27, h28, h29, h30, h31, h32, h33, h34, h35, h36, h37, h38, h39, h40, h41, h42, h43, h44, h45, h46, h47, h48, h49, h50, h51, h52, h53, h54, h55, h56, h57, h58, h59, h60, h61]
/-- Which temporaries the loop keeps. -/
def TmpsH (rb hb : Nat) (T : Array Value) (rest : Value) : Prop := T.size = 62 ∧ T[0]? = some (.pointer (some ⟨rb, 0, none⟩)) ∧ T[4]? = some (.pointer (some ⟨hb, 0, none⟩)) ∧ T[5]? = some rest
/-- The words behind the fourth have a shape that fits. -/
def restOK : List ByteArray → Prop
  | [] => True
  | [_] => False
  | k :: _ :: r => (stapleB k = false → r = []) ∧ restOK r
theorem restOK_fits (x0 x1 x2 x3 : ByteArray) (xr : List ByteArray) (h : fits 8 (x0 :: x1 :: x2 :: x3 :: xr) = true) : restOK xr := by
  match xr, h with
  | [], _ => trivial
  | [a], h => simp [fits] at h
  | [a, b], h => exact ⟨fun _ => rfl, trivial⟩
  | [a, b, c], h => simp [fits] at h
  | [a, b, c, d], h =>
    have h1 : stapleB a = true := by
      simp [fits, wd] at h
      exact h.1
    exact ⟨fun e => absurd (h1.symm.trans e) (by decide), fun _ => rfl, trivial⟩
  | a :: b :: c :: d :: e :: r, h => simp [fits] at h
/-- How many words are left. -/
def leftH (a : Act) (_ : World) : Nat := match a.tmps[5]? with | some (Value.slice _ n _) => n | _ => 0
/-- The box of a line, and all that is round it. -/
structure BoxH (w0 W : World) (rb sm ww hb : Nat) (C : Array Value) (es : Array MapEntry) (clk : Nat) (xs : List ByteArray) (h : HostL) (pv : Value) (D : List Deferred) : Prop where
  T : Stage w0 W rb sm ww C es clk xs
  Q : Blk W hb (hostBox h pv) 72
  P : W.ownsRow w0.heap.size 9 1 pv h.protocols.length (h.protocols.map Value.string)
  M : MarkOK w0.heap.size D W
/-- What is left to read, what was read. -/
structure LeftH (xr l yr : List ByteArray) (h : HostL) (R : Except Int HostL) (x1 : ByteArray) (j : Nat) : Prop where
  drop : xr.drop j = l
  ok : restOK yr
  rest : hostRest yr h = R
  name : h.name = x1
/-- The loop on its way: what is left to read, what was read. -/
def LoopH (w0 : World) (rb sm ww hb : Nat) (C : Array Value) (es : Array MapEntry) (clk : Nat) (xs xr : List ByteArray) (x1 : ByteArray) (R : Except Int HostL) (a : Act) (W : World) : Prop :=
  ∃ (yr : List ByteArray) (j : Nat) (h : HostL) (pv : Value) (A : Option Addr) (c : Nat), TmpsH rb hb a.tmps (.slice A yr.length c) ∧ (0 < yr.length → A = some ⟨ww, 4 + j, none⟩ ∧ yr.length ≤ c) ∧ LeftH xr yr yr h R x1 j ∧
    (0 < yr.length → a.defers = [] ∧ pv = .slice none 0 0 ∧ h.protocols = []) ∧ Hid (BoxH w0 W rb sm ww hb C es clk xs h pv a.defers)
/-- Behind one pair of words. -/
def MidH (w0 : World) (rb sm ww hb : Nat) (C : Array Value) (es : Array MapEntry) (clk : Nat) (xs xr : List ByteArray) (x1 : ByteArray) (R : Except Int HostL) (n : Nat) (a : Act) (W : World) : Prop :=
  ∃ (k x : ByteArray) (yr : List ByteArray) (j : Nat) (h : HostL) (pv : Value) (c : Nat), yr.length = n ∧ TmpsH rb hb a.tmps (.slice (some ⟨ww, 4 + j, none⟩) (yr.length + 2) c) ∧ yr.length + 2 ≤ c ∧ LeftH xr (k :: x :: yr) yr h R x1 j ∧
    (0 < yr.length → a.defers = [] ∧ pv = .slice none 0 0 ∧ h.protocols = []) ∧ Hid (BoxH w0 W rb sm ww hb C es clk xs h pv a.defers)
/-- Behind the loop. -/
def DoneH (w0 : World) (rb sm ww hb : Nat) (C : Array Value) (es : Array MapEntry) (clk : Nat) (xs : List ByteArray) (x1 : ByteArray) (R : Except Int HostL) (a : Act) (W : World) : Prop :=
  ∃ (h : HostL) (pv v : Value), TmpsH rb hb a.tmps v ∧ Hid (R = .ok h ∧ h.name = x1) ∧ Hid (BoxH w0 W rb sm ww hb C es clk xs h pv a.defers)
theorem own_kept {S : Nat → Prop} {w w' : World} {base n size : Nat} {e : TypeId} {v : Value} {xs : List Value} (h : w.ownsRow base e size v n xs) (hs : Same S w w') (hS : ∀ g, base ≤ g → ¬ S g) : w'.ownsRow base e size v n xs := by
  refine ⟨h.1, h.2.imp id ?_⟩
  rintro ⟨g, cap, cur, hv, hg, hh, r⟩
  exact ⟨g, cap, cur, hv, hg, (hs.block g (Array.getElem?_eq_some_iff.1 hh).1 (hS g hg)).trans hh, r⟩
theorem own_base {w : World} {b b' n size : Nat} {e : TypeId} {v : Value} {xs : List Value} (h : w.ownsRow b e size v n xs) (hb : b' ≤ b) : w.ownsRow b' e size v n xs := by
  refine ⟨h.1, h.2.imp id ?_⟩
  rintro ⟨g, cap, cur, hv, hg, r⟩
  exact ⟨g, cap, cur, hv, Nat.le_trans hb hg, r⟩
/-- Between two protocols. -/
structure ProtoI (w0 : World) (rb sm ww hb : Nat) (C : Array Value) (es : Array MapEntry) (clk : Nat) (xs : List ByteArray) (h : HostL) (lo : Nat) (pre : List (List UInt8)) (pv : Value) (V : World) : Prop where
  T : Stage w0 V rb sm ww C es clk xs
  Q : Blk V hb (hostBox h pv) 72
  P : V.ownsRow lo 9 1 pv pre.length (pre.map fun l => Value.string ⟨l.toArray⟩)
  good : (pre.all fun l => protoV ⟨l.toArray⟩) = true
/-- A protocol was refused. -/
structure ProtoNo (w0 : World) (rb sm ww : Nat) (C : Array Value) (es : Array MapEntry) (clk : Nat) (xs : List ByteArray) (R : Except Int HostL) (ch : List PanicEntry) (V : World) : Prop where
  ch : ch = [{ v := .iface 29 (.int .i64 223), recovered := false }]
  T : Stage w0 V rb sm ww C es clk xs
  R : R = .error 223
/-- append onto a slice that the call owns, at the operation, in a fence. -/
theorem in_append {F : Fence} {n : Nat} {P : Program} {o : Oper} {a : Act} {w : World} {K : Act → World → Prop} {Q : Exit → Act → World → Prop} (s x : Operand) (t : TypeId)
    (ho : o.op = .call { callee := .builtin .append, args := #[s, x], argTypes := #[t, t] })
    (base : Nat) (e : TypeId) (i : TypeInfo) (z : Value) (size bytes : Nat) (ht : P.underlying t = some (.slice e)) (hi : P.info? e = some i) (hz : i.zero = some z)
    (hsize : i.size = size) (hby : i.bytes = bytes) (hzs : z.cells.size = size) (hsz : 0 < size)
    (v : Value) (m0 : Nat) (xs : List Value) (hs : a.eval s = v) (hown : w.ownsRow base e size v m0 xs)
    (ad : Addr) (m c : Nat) (news : List Value) (hx : a.eval x = .slice (some ad) m c) (hl : news.length = m * size) (hnews : ∀ j u, news[j]? = some u → w.cell? (ad.add j) = some u) (h1 : ∀ u ∈ news, u.oneCell' = true)
    (h63 : m0 + m ≤ maxLen) (hbytes : (m0 + m) * bytes ≤ 140737488355328) (hbase : base ≤ w.heap.size)
    (h : ∀ v' w', w'.ownsRow base e size v' (m0 + m) (xs ++ news) → w.grownBy w' v.ownBlock → K (a.put o.dst v') w') : o.wpIn F n P a w K Q := by
  obtain ⟨v', w', hr, h2, h3, _, _⟩ := run_append_own_at (P := P) w base t o.type e i z size bytes ht hi hz hsize hby hzs hsz v m0 xs hown ad m c news hl hnews h1 h63 hbytes hbase
  unfold Oper.wpIn
  refine ⟨by simp [Oper.about, ho, resolve, Target.leads, Sem.run_pure], ?_⟩
  rw [Oper.semAt_plain F _ _ (by rw [ho]; intro c hc'; cases hc')]
  simp [execOp, ho, resolve, invoke, builtin, hs, hx, hr, Result.andThen]
  exact h v' w' h2 h3
theorem own_lo {w : World} {base n size g : Nat} {e : TypeId} {v : Value} {xs : List Value} (h : w.ownsRow base e size v n xs) (hg : v.ownBlock = some g) : base ≤ g := by
  rcases h.2 with ⟨rfl, _⟩ | ⟨g', cap, cur, rfl, hb, _⟩
  · cases hg
  · simp only [Value.ownBlock, Option.some.injEq] at hg
    omega
theorem proto_step {w0 V V4 w5 : World} {rb sm ww hb clk lo : Nat} {C : Array Value} {es : Array MapEntry} {xs : List ByteArray} {h : HostL} {pre : List (List UInt8)} {pv v' : Value} {y : ByteArray} (I : ProtoI w0 rb sm ww hb C es clk xs h lo pre pv V) (B4 : Below V.drew.heap.size V.drew V4)
    (hown : w5.ownsRow lo 9 1 v' (pre.length + 1) ((pre.map fun l => Value.string ⟨l.toArray⟩) ++ [.string y])) (hg : (V4.alloc (.cells #[.string y] 9)).grownBy w5 pv.ownBlock) (hy : protoV y = true)
    (h8 : 8 ≤ w0.heap.size) (h0 : w0.heap.size ≤ hb) (h1 : rb < hb) (h2 : sm < hb) (h3 : ww < hb) (h4 : hb < lo) :
    Same (fun b => b = hb ∨ lo ≤ b) V (w5.setCell ⟨hb, 4, none⟩ v') ∧ ProtoI w0 rb sm ww hb C es clk xs h lo (pre ++ [y.data.toList]) v' (w5.setCell ⟨hb, 4, none⟩ v') ∧ Blk w5 hb (hostBox h pv) 72 := by
  have s1 : Same (fun b => b = hb ∨ lo ≤ b) V w5 :=
    ((((Same.refl (fun b => b = hb ∨ lo ≤ b) V).drew.thru (same_below (S := fun _ => False) B4) (fun b _ e => e.elim)).alloc (.cells #[.string y] 9))).thru (same_grown hg) (fun b _ e => .inr (own_lo I.P e))
  have s2 : Same (fun b => lo ≤ b) V w5 :=
    ((((Same.refl (fun b => lo ≤ b) V).drew.thru (same_below (S := fun _ => False) B4) (fun b _ e => e.elim)).alloc (.cells #[.string y] 9))).thru (same_grown hg) (fun b _ e => own_lo I.P e)
  have s3 := s1.set ⟨hb, 4, none⟩ v' (fun _ => .inl rfl)
  have q5 := I.Q.kept s2 (by omega)
  refine ⟨s3, ⟨I.T.far s3 h8 ?_, q5.set 4 v', ?_, ?_⟩, q5⟩
  · rintro b (rfl | hb) <;> omega
  · rw [List.length_append, List.map_append]
    exact own_kept hown ((Same.refl (fun b => b = hb) w5).set _ _ (fun _ => rfl)) (by rintro g hg rfl; omega)
  · rw [List.all_append, I.good]
    simpa using hy
theorem cuts_sum : ∀ (c : UInt8) (l : List UInt8), ((cuts c l).map List.length).sum + (cuts c l).length = l.length + 1
  | c, [] => by simp [cuts]
  | c, x :: l => by
    have ih := cuts_sum c l
    by_cases h : (x == c) = true
    · rw [cuts_same h]
      simp only [List.map_cons, List.sum_cons, List.length_cons, List.length_nil]
      omega
    · cases hl : cuts c l with
      | nil => exact absurd hl (cuts_ne c l)
      | cons p ps =>
        rw [cuts_other h hl]
        rw [hl] at ih
        simp only [List.map_cons, List.sum_cons, List.length_cons] at ih ⊢
        omega
theorem cuts_bound (c : UInt8) (l : List UInt8) (pre rest : List (List UInt8)) (y : List UInt8) (h : cuts c l = pre ++ y :: rest) : y.length ≤ l.length + 1 ∧ pre.length + 1 ≤ l.length + 1 := by
  have h1 := cuts_sum c l
  rw [h] at h1
  simp only [List.map_append, List.map_cons, List.sum_append, List.sum_cons, List.length_append, List.length_cons] at h1
  omega
theorem own_shape {w : World} {base n size : Nat} {e : TypeId} {v : Value} {xs : List Value} (h : w.ownsRow base e size v (n + 1) xs) : ∃ g cap, v = .slice (some ⟨g, 0, none⟩) (n + 1) cap := by
  rcases own_form h with ⟨_, h0⟩ | ⟨g, cap, hv, _⟩
  · omega
  · exact ⟨g, cap, hv⟩
/-- What the last region may end with: where it panics its temporaries do not matter. -/
def TailQ (BP : Exit → Act → World → Prop) (D : List Deferred) (B : Nat) (RH : Ending → World → Prop) : Exit → Act → World → Prop
  | .panic ch, a, W => a.defers = D ∧ MarkOK B D W ∧ RH (.panicked ch) W
  | e, a, W => BP e a W
theorem TailQ.imp {BP : Exit → Act → World → Prop} {D : List Deferred} {B : Nat} {RH : Ending → World → Prop} (h : ∀ ch a W, a.defers = D ∧ MarkOK B D W ∧ RH (.panicked ch) W → BP (.panic ch) a W) (e : Exit) (a : Act) (W : World) (hq : TailQ BP D B RH e a W) : BP e a W := by
  cases e with
  | panic ch => exact h ch a W hq
  | normal => exact hq
  | ret => exact hq
  | exit id => exact hq
  | goto l => exact hq
  | outgrown => exact hq
end Go.Proofs.YtjokcflpjpophaaGreatDoor
