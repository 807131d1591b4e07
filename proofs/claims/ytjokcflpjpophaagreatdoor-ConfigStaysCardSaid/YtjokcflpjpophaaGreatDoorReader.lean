/- The reader's state in memory, and what each line turns of it. Conditions: the reader, the words, the library's variables and the functions' captured cells are there; the words fit. -/
import Derived.Test.YtjokcflpjpophaaGreatDoorLineHost
import Derived.Test.YtjokcflpjpophaaGreatDoorStays
namespace Go.Proofs.YtjokcflpjpophaaGreatDoor
open Go.RowKit

/-- The cells of a reader that has read st. -/
def confC (st : St) (hv bv rv : Value) (sm : Nat) : Array Value := #[.int .i64 (st 0).a, .int .i64 (st 1).a, .int .i64 (st 5).a, .int .i64 (st 5).b, .int .i64 (st 2).a, .int .i64 (st 3).a, .int .i64 (st 4).a, .string (st 6).t, .int .i64 (st 6).a, .int .i64 (st 6).b, .string (st 7).t, .bool (st 7).m, hv, bv, rv, .map (some sm)]
/-- A state, turned at one place. -/
def turn (st : St) (k : Nat) (v : Slot) : St := fun j => if j = k then v else st j

theorem own_kind {w : World} {base n size g : Nat} {e : TypeId} {v : Value} {xs : List Value} (h : w.ownsRow base e size v n xs) (hg : v.ownBlock = some g) : base ≤ g ∧ ∃ c fz, w.heap[g]? = some (.cells c e fz) := by
  rcases h.2 with ⟨h0, _⟩ | ⟨g', cap', cur, h0, hb, hh, _⟩
  · rw [h0] at hg; cases hg
  · rw [h0] at hg
    simp only [Value.ownBlock, Option.some.injEq] at hg
    subst hg
    exact ⟨hb, _, _, hh⟩

/-- A reader in memory. -/
structure RdAt (w : World) (B rb sm : Nat) (st : St) (hv bv rv : Value) (hs : List HostV) (es : Array MapEntry) (clk : Nat) : Prop where
  R : Blk w rb (confC st hv bv rv sm) 59
  M : w.heap[sm]? = some (.map es clk)
  K : OnceKeys es
  seen : ∀ k, k < 8 → ∀ x, lineNames[k]? = some x → ((st k).seen = true ↔ ∃ y ∈ es.toList, y.key = .string x)
  H : w.ownsRow B 72 5 hv hs.length (hs.flatMap hostCells)
  P : ∀ b ∈ hs, ProtoAt B w b
  hh : hs.map Prod.fst = (st 8).hs
  Bk : w.ownsRow B 75 4 bv (st 9).bs.length ((st 9).bs.flatMap backCells)
  Rt : w.ownsRow B 68 3 rv (st 10).rs.length ((st 10).rs.flatMap routeCells)
  nH : hs.length ≤ 16
  nB : (st 9).bs.length ≤ 16
  nR : (st 10).rs.length ≤ 16
  zH : ∀ b ∈ hs, b.1.name.size ≤ 140737488351240
  zR : ∀ b ∈ (st 10).rs, b.host.size ≤ 140737488351240
  ge : 8 ≤ rb ∧ 8 ≤ sm ∧ rb < B ∧ sm < B
def RdIs (w : World) (B rb sm : Nat) (st : St) : Prop := ∃ hv bv rv hs es clk, RdAt w B rb sm st hv bv rv hs es clk
/-- The blocks that a line may turn. -/
def Mine (w : World) (B rb sm b : Nat) : Prop := b = rb ∨ b = sm ∨ (B ≤ b ∧ ∃ c T fz, w.heap[b]? = some (.cells c T fz) ∧ (T = 72 ∨ T = 75 ∨ T = 68))
theorem Mine.sub {w : World} {B rb sm b : Nat} (h : Mine w B rb sm b) : b = rb ∨ b = sm ∨ B ≤ b := h.imp id (Or.imp id And.left)
/-- How a line ends. -/
def SayK (w w' : World) (B rb sm : Nat) (st : St) (k : Nat) (r : Except Int Slot) (e : Ending) : Prop :=
  Same (Mine w B rb sm) w w' ∧ match r with
    | .error c => e = .panicked [{ v := .iface 29 (.int .i64 c), recovered := false }]
    | .ok v => e = .returned (.tuple #[]) ∧ RdIs w' B rb sm (turn st k v)

section
variable {w w' : World} {B rb sm : Nat} {st : St} {hv bv rv : Value} {hs : List HostV} {es : Array MapEntry} {clk : Nat}
/-- What of the reader stays where other blocks are written. -/
theorem RdAt.below (D : RdAt w B rb sm st hv bv rv hs es clk) (hb : Below w.heap.size w w') : RdAt w' B rb sm st hv bv rv hs es clk where
  R := D.R.below hb D.R.lt
  M := (hb.block sm (Array.getElem?_eq_some_iff.1 D.M).1).trans D.M
  K := D.K
  seen := D.seen
  H := own_below D.H hb
  P := fun b hm => own_below (D.P b hm) hb
  hh := D.hh
  Bk := own_below D.Bk hb
  Rt := own_below D.Rt hb
  nH := D.nH
  nB := D.nB
  nR := D.nR
  zH := D.zH
  zR := D.zR
  ge := D.ge
theorem RdIs.below (D : RdIs w B rb sm st) (hb : Below w.heap.size w w') : RdIs w' B rb sm st := by
  obtain ⟨hv, bv, rv, hs, es, clk, D⟩ := D
  exact ⟨hv, bv, rv, hs, es, clk, D.below hb⟩
theorem RdIs.kept (D : RdIs w B rb sm st) {S : Nat → Prop} (h : Same S w w') (h1 : ¬ S rb) (h2 : ¬ S sm) (h3 : ∀ g, B ≤ g → ¬ S g) : RdIs w' B rb sm st := by
  obtain ⟨hv, bv, rv, hs, es, clk, D⟩ := D
  exact ⟨hv, bv, rv, hs, es, clk, {
    R := D.R.kept h h1
    M := (h.block sm (Array.getElem?_eq_some_iff.1 D.M).1 h2).trans D.M
    K := D.K
    seen := D.seen
    H := own_kept D.H h h3
    P := fun b hb => own_kept (D.P b hb) h h3
    hh := D.hh
    Bk := own_kept D.Bk h h3
    Rt := own_kept D.Rt h h3
    nH := D.nH
    nB := D.nB
    nR := D.nR
    zH := D.zH
    zR := D.zR
    ge := D.ge }⟩
/-- Rows of another kind stay. -/
theorem RdAt.row (D : RdAt w B rb sm st hv bv rv hs es clk) {S : Nat → Prop} (hs' : Same S w w') {o : Option Nat} {T : TypeId} (ho : ∀ g, o = some g → ∃ c fz, w.heap[g]? = some (.cells c T fz)) (hS : ∀ b, S b → b = rb ∨ b = sm ∨ o = some b)
    {base n size : Nat} {e : TypeId} {v : Value} {xs : List Value} (h : w.ownsRow base e size v n xs) (h1 : e ≠ 59) (h2 : e ≠ T) : w'.ownsRow base e size v n xs :=
  own_same h hs' fun g c fz hg hb => by
    rcases hS g hb with rfl | rfl | ho'
    · have := (show w.heap[g]? = _ from D.R).symm.trans hg
      simp only [Option.some.injEq, Obj.cells.injEq] at this
      exact h1 this.2.1.symm
    · exact absurd (D.M.symm.trans hg) (by simp)
    · obtain ⟨c', fz', hh⟩ := ho g ho'
      have := hh.symm.trans hg
      simp only [Option.some.injEq, Obj.cells.injEq] at this
      exact h2 this.2.1.symm
theorem RdAt.stage (D : RdAt w B rb sm st hv bv rv hs es clk) {ww : Nat} {xs : List ByteArray} (hL : LaidW w) (hw : WordsIn w ww xs) (h1 : ww < w.heap.size) (h2 : B ≤ ww) : Stage w w rb sm ww (confC st hv bv rv sm) es clk xs where
  S := Same.refl _ _
  R := D.R
  M := D.M
  K := D.K
  C15 := rfl
  L := hL
  words := hw
  wlt := h1
  ne1 := fun e => by have := D.ge.2.2.1; omega
  ne2 := fun e => by have := D.ge.2.2.2; omega
  ge := ⟨D.ge.1, D.ge.2.1⟩

theorem lineNames_inj (j k : Nat) (x : ByteArray) (hj : lineNames[j]? = some x) (hk : lineNames[k]? = some x) : j = k := by
  have h : ∀ (j : Fin 11) (k : Fin 11), lineNames[j.1]? = lineNames[k.1]? → j = k := by decide +kernel
  have l1 : j < 11 := (List.getElem?_eq_some_iff.1 hj).1
  have l2 : k < 11 := (List.getElem?_eq_some_iff.1 hk).1
  exact congrArg Fin.val (h ⟨j, l1⟩ ⟨k, l2⟩ (hj.trans hk.symm))

/-- A line that is counted. -/
theorem RdAt.counted (D : RdAt w B rb sm st hv bv rv hs es clk) (k : Nat) (hk : k < 8) (x0 : ByteArray) (hx : lineNames[k]? = some x0) {e : Ending} {r : Except Int (Array Value)} (h : SaysR w w' rb sm es clk x0 e r) (r' : Except Int Slot)
    (herr : ∀ c, r = .error c → r' = .error c) (hok : ∀ C, r = .ok C → ∃ v : Slot, r' = onceE v ∧ v.seen = (st k).seen ∧ C = confC (turn st k { v with seen := true }) hv bv rv sm) : SayK w w' B rb sm st k r' e := by
  refine ⟨h.1.mono fun b _ hb => hb.elim .inl (fun e => .inr (.inl e)), ?_⟩
  have h2 := h.2
  cases hr : r with
  | error c =>
    rw [hr] at h2
    rw [herr c hr]
    exact h2
  | ok C =>
    rw [hr] at h2
    obtain ⟨v, rfl, hv', hC⟩ := hok C hr
    have hs8 := D.seen k hk x0 hx
    have hrow : ∀ {base n size : Nat} {e : TypeId} {v : Value} {xs : List Value}, w.ownsRow base e size v n xs → e ≠ 59 → w'.ownsRow base e size v n xs := fun ho h1 =>
      own_same ho h.1 fun g c fz hg hb => by
        rcases hb with rfl | rfl
        · have := (show w.heap[g]? = _ from D.R).symm.trans hg
          simp only [Option.some.injEq, Obj.cells.injEq] at this
          exact h1 this.2.1.symm
        · exact absurd (D.M.symm.trans hg) (by simp)
    rcases h2 with ⟨hy, he⟩ | ⟨hy, he, hb, hm⟩
    · have : v.seen = true := hv'.trans (hs8.2 hy)
      unfold onceE
      rw [if_pos this]
      exact he
    · have : ¬ v.seen = true := fun e => by
        obtain ⟨y, hy1, hy2⟩ := hs8.1 (hv'.symm.trans e)
        exact hy y hy1 hy2
      unfold onceE
      rw [if_neg this]
      refine ⟨he, hv, bv, rv, hs, es.push { key := .string x0, val := .int .i64 1, born := clk }, clk + 1, ?_⟩
      have t8 : turn st k { v with seen := true } 8 = st 8 := if_neg (by omega)
      have t9 : turn st k { v with seen := true } 9 = st 9 := if_neg (by omega)
      have t10 : turn st k { v with seen := true } 10 = st 10 := if_neg (by omega)
      exact {
        R := by rw [← hC]; exact hb
        M := hm
        K := D.K.push x0 clk
        seen := fun j hj x hxj => by
          rw [Array.toList_push]
          by_cases e : j = k
          · subst e
            have : x = x0 := Option.some.inj (hxj.symm.trans hx)
            subst this
            refine ⟨fun _ => ⟨_, List.mem_append_right _ (List.mem_singleton.2 rfl), rfl⟩, fun _ => ?_⟩
            show (turn st j { v with seen := true } j).seen = true
            unfold turn
            rw [if_pos rfl]
          · have ht : turn st k { v with seen := true } j = st j := if_neg e
            rw [ht, D.seen j hj x hxj]
            refine ⟨fun ⟨y, h1, h2⟩ => ⟨y, List.mem_append_left _ h1, h2⟩, fun ⟨y, h1, h2⟩ => ?_⟩
            rcases List.mem_append.1 h1 with h1 | h1
            · exact ⟨y, h1, h2⟩
            · obtain rfl := List.mem_singleton.1 h1
              have : x0 = x := by simpa using h2
              subst this
              exact absurd (lineNames_inj j k x0 hxj hx) e
        H := hrow D.H (by decide)
        P := fun b hb => hrow (D.P b hb) (by decide)
        hh := by rw [t8]; exact D.hh
        Bk := by rw [t9]; exact hrow D.Bk (by decide)
        Rt := by rw [t10]; exact hrow D.Rt (by decide)
        nH := D.nH
        nB := by rw [t9]; exact D.nB
        nR := by rw [t10]; exact D.nR
        zH := D.zH
        zR := by rw [t10]; exact D.zR
        ge := D.ge }

theorem putE_len {α β : Type} {l : List α} {x : α} {p : α → Bool} {k : List α → β} {r : β} (h : putE l x p k = .ok r) : l.length < 16 ∧ r = k (l ++ [x]) := by
  unfold putE at h
  split at h
  · cases h
  · split at h
    · cases h
    · cases h
      exact ⟨by omega, rfl⟩
theorem nameE_ok {α : Type} {b : Bool} {k : Except Int α} {r : α} (h : nameE b k = .ok r) : b = true ∧ k = .ok r := by
  unfold nameE at h
  split at h
  · exact ⟨by assumption, h⟩
  · cases h
theorem bindE_ok {α β : Type} {x : Except Int α} {f : α → Except Int β} {r : β} (h : bindE x f = .ok r) : ∃ v, x = .ok v ∧ f v = .ok r := by
  unfold bindE at h
  split at h
  · exact ⟨_, rfl, h⟩
  · cases h
theorem hostRest_name : ∀ (W : List ByteArray) (h h' : HostL), hostRest W h = .ok h' → h'.name = h.name
  | [], h, h', e => by cases e; rfl
  | [_], h, h', e => by cases e; rfl
  | k :: x :: r, h, h', e => by
    unfold hostRest at e
    split at e
    · exact (hostRest_name r _ _ (nameE_ok e).2).trans rfl
    · exact (hostRest_name r _ _ (nameE_ok e).2).trans rfl

def mapR {α β : Type} (f : α → β) : Except Int α → Except Int β
  | .ok v => .ok (f v)
  | .error c => .error c
theorem nameE_map {α β : Type} (f : α → β) (b : Bool) (k : Except Int α) : nameE b (mapR f k) = mapR f (nameE b k) := by cases b <;> rfl
theorem bindE_map {α β γ : Type} (f : β → γ) (x : Except Int α) (k : α → Except Int β) : bindE x (fun v => mapR f (k v)) = mapR f (bindE x k) := by cases x <;> rfl
theorem putE_mapR {α β : Type} (l : List α) (x : α) (p : α → Bool) (f : List α → β) : mapR f (putE l x p id) = putE l x p f := by
  unfold putE
  split
  · rfl
  · split <;> rfl

/-- A line of a host. -/
theorem RdAt.hosted (D : RdAt w B rb sm st hv bv rv hs es clk) {e : Ending} {x1 x2 x3 : ByteArray} {R : Except Int HostL} (hR : ∀ h, R = .ok h → h.name = x1) (hx1 : x1.size ≤ 140737488351240)
    (h : RowH w w' B rb sm hv (confC st hv bv rv sm) es clk e (hostSpec x1 x2 x3 R (hs.map Prod.fst))) :
    SayK w w' B rb sm st 8 (nameE (patV x1) (nameE (ofV fileL x2) (nameE (ofV fileL x3) (bindE R fun h => putE (st 8).hs h (fun x => decide (lowB x.name = lowB h.name)) fun l => { st 8 with hs := l })))) e := by
  have hrel : ∀ (p : HostL → HostL → Bool), nameE (patV x1) (nameE (ofV fileL x2) (nameE (ofV fileL x3) (bindE R fun h => putE (st 8).hs h (p h) fun l => ({ st 8 with hs := l } : Slot)))) =
      mapR (fun l => ({ st 8 with hs := l } : Slot)) (nameE (patV x1) (nameE (ofV fileL x2) (nameE (ofV fileL x3) (bindE R fun h => putE (st 8).hs h (p h) id)))) := by
    intro p
    rw [← nameE_map, ← nameE_map, ← nameE_map, ← bindE_map]
    simp only [putE_mapR]
  rw [hrel fun h x => decide (lowB x.name = lowB h.name)]
  rw [D.hh] at h
  have hsp : hostSpec x1 x2 x3 R (st 8).hs = nameE (patV x1) (nameE (ofV fileL x2) (nameE (ofV fileL x3) (bindE R fun h => putE (st 8).hs h (fun x => decide (lowB x.name = lowB h.name)) id))) := rfl
  rw [← hsp]
  have hsub : ∀ b, (b = rb ∨ b = sm ∨ hv.ownBlock = some b) → Mine w B rb sm b := fun b hb => hb.imp id (Or.imp id fun e => by
    obtain ⟨h1, c, fz, hh⟩ := own_kind D.H e
    exact ⟨h1, c, _, fz, hh, .inl rfl⟩)
  refine ⟨h.1.mono fun b _ hb => hsub b hb, ?_⟩
  have h2 := h.2
  cases hr : hostSpec x1 x2 x3 R (st 8).hs with
  | error c =>
    rw [hr] at h2
    exact h2
  | ok l =>
    rw [hr] at h2
    obtain ⟨he, v', l', hl, hP, hb, hm, ho⟩ := h2
    rw [hsp] at hr
    obtain ⟨_, hr⟩ := nameE_ok hr
    obtain ⟨_, hr⟩ := nameE_ok hr
    obtain ⟨_, hr⟩ := nameE_ok hr
    obtain ⟨hh, hRh, hr⟩ := bindE_ok hr
    obtain ⟨hn, rfl⟩ := putE_len hr
    have hrow : ∀ {base n size : Nat} {e : TypeId} {v : Value} {xs : List Value}, w.ownsRow base e size v n xs → e ≠ 59 → e ≠ 72 → w'.ownsRow base e size v n xs := fun ho h1 h2 =>
      D.row h.1 (T := 72) (fun g hg => (own_kind D.H hg).2) (fun b hb => hb) ho h1 h2
    have t9 : ∀ v, turn st 8 v 9 = st 9 := fun v => if_neg (by omega)
    have t10 : ∀ v, turn st 8 v 10 = st 10 := fun v => if_neg (by omega)
    have hl' : l'.length = (st 8).hs.length + 1 := by
      have := congrArg List.length hl
      simpa using this
    have hs8 : hs.length = (st 8).hs.length := by rw [← D.hh, List.length_map]
    refine ⟨he, v', bv, rv, l', es, clk, ?_⟩
    exact {
      R := hb
      M := hm
      K := D.K
      seen := fun j hj x hx => by
        rw [show turn st 8 _ j = st j from if_neg (by omega)]
        exact D.seen j hj x hx
      H := ho
      P := hP
      hh := hl
      Bk := by rw [t9]; exact hrow D.Bk (by decide) (by decide)
      Rt := by rw [t10]; exact hrow D.Rt (by decide) (by decide)
      nH := by omega
      nB := by rw [t9]; exact D.nB
      nR := by rw [t10]; exact D.nR
      zH := fun b hb => by
        have hm : b.1 ∈ (st 8).hs ++ [hh] := by
          rw [← show l'.map Prod.fst = (st 8).hs ++ [hh] from hl]
          exact List.mem_map_of_mem hb
        rcases List.mem_append.1 hm with hm | hm
        · rw [← D.hh] at hm
          obtain ⟨b', hb', e⟩ := List.mem_map.1 hm
          rw [← e]
          exact D.zH b' hb'
        · rw [List.mem_singleton.1 hm, hR _ hRh]
          exact hx1
      zR := by rw [t10]; exact D.zR
      ge := D.ge }

/-- A line of a backend. -/
theorem RdAt.backed (D : RdAt w B rb sm st hv bv rv hs es clk) {e : Ending} {x1 x2 x3 x4 : ByteArray}
    (h : RowB w w' B rb sm bv (confC st hv bv rv sm) es clk e (nameE (ofV smallL x1) (bindE (numE x2 0 255) fun n => nameE (hostV x3.data.toList) (nameE (ofV fileL x4) (putE (st 9).bs { name := x1, addr := n, host := x3, roots := x4 } (fun x => decide (x.name.data = x1.data)) id))))) :
    SayK w w' B rb sm st 9 (nameE (ofV smallL x1) (bindE (numE x2 0 255) fun n => nameE (hostV x3.data.toList) (nameE (ofV fileL x4) (putE (st 9).bs { name := x1, addr := n, host := x3, roots := x4 } (fun x => decide (x.name.data = x1.data)) fun l => { st 9 with bs := l })))) e := by
  obtain ⟨r, hr0⟩ : ∃ r, nameE (ofV smallL x1) (bindE (numE x2 0 255) fun n => nameE (hostV x3.data.toList) (nameE (ofV fileL x4) (putE (st 9).bs { name := x1, addr := n, host := x3, roots := x4 } (fun x => decide (x.name.data = x1.data)) id))) = r := ⟨_, rfl⟩
  have hrel : nameE (ofV smallL x1) (bindE (numE x2 0 255) fun n => nameE (hostV x3.data.toList) (nameE (ofV fileL x4) (putE (st 9).bs { name := x1, addr := n, host := x3, roots := x4 } (fun x => decide (x.name.data = x1.data)) fun l => ({ st 9 with bs := l } : Slot)))) =
      mapR (fun l => ({ st 9 with bs := l } : Slot)) r := by
    rw [← hr0, ← nameE_map, ← bindE_map]
    simp only [← nameE_map, putE_mapR]
  rw [hrel]
  rw [hr0] at h
  have hsub : ∀ b, (b = rb ∨ b = sm ∨ bv.ownBlock = some b) → Mine w B rb sm b := fun b hb => hb.imp id (Or.imp id fun e => by
    obtain ⟨h1, c, fz, hh⟩ := own_kind D.Bk e
    exact ⟨h1, c, _, fz, hh, .inr (.inl rfl)⟩)
  refine ⟨h.1.mono fun b _ hb => hsub b hb, ?_⟩
  have h2 := h.2
  cases r with
  | error c => exact h2
  | ok l =>
    obtain ⟨he, v', hb, hm, ho⟩ := h2
    obtain ⟨_, hr⟩ := nameE_ok hr0
    obtain ⟨n, _, hr⟩ := bindE_ok hr
    obtain ⟨_, hr⟩ := nameE_ok hr
    obtain ⟨_, hr⟩ := nameE_ok hr
    obtain ⟨hn, rfl⟩ := putE_len hr
    have hrow : ∀ {base n size : Nat} {e : TypeId} {v : Value} {xs : List Value}, w.ownsRow base e size v n xs → e ≠ 59 → e ≠ 75 → w'.ownsRow base e size v n xs := fun ho h1 h2 =>
      D.row h.1 (T := 75) (fun g hg => (own_kind D.Bk hg).2) (fun b hb => hb) ho h1 h2
    have t8 : ∀ v, turn st 9 v 8 = st 8 := fun v => if_neg (by omega)
    have t10 : ∀ v, turn st 9 v 10 = st 10 := fun v => if_neg (by omega)
    refine ⟨he, hv, v', rv, hs, es, clk, ?_⟩
    exact {
      R := hb
      M := hm
      K := D.K
      seen := fun j hj x hx => by
        rw [show turn st 9 _ j = st j from if_neg (by omega)]
        exact D.seen j hj x hx
      H := hrow D.H (by decide) (by decide)
      P := fun b hb => hrow (D.P b hb) (by decide) (by decide)
      hh := by rw [t8]; exact D.hh
      Bk := ho
      Rt := by rw [t10]; exact hrow D.Rt (by decide) (by decide)
      nH := D.nH
      nB := by show ((st 9).bs ++ [_]).length ≤ 16; simp; omega
      nR := by rw [t10]; exact D.nR
      zH := D.zH
      zR := by rw [t10]; exact D.zR
      ge := D.ge }

/-- A line of a route. -/
theorem RdAt.routed (D : RdAt w B rb sm st hv bv rv hs es clk) {e : Ending} {x1 x2 x3 : ByteArray} (hx1 : x1.size ≤ 140737488351240)
    (h : RowR w w' B rb sm rv (confC st hv bv rv sm) es clk e (nameE (patV x1) (nameE (decide (x2.data = #[42]) || protoV x2) (nameE (ofV smallL x3) (putE (st 10).rs { host := x1, proto := x2, backend := x3 } (fun x => decide (lowB x.host = lowB x1) && decide (x.proto.data = x2.data)) id))))) :
    SayK w w' B rb sm st 10 (nameE (patV x1) (nameE (decide (x2.data = #[42]) || protoV x2) (nameE (ofV smallL x3) (putE (st 10).rs { host := x1, proto := x2, backend := x3 } (fun x => decide (lowB x.host = lowB x1) && decide (x.proto.data = x2.data)) fun l => { st 10 with rs := l })))) e := by
  obtain ⟨r, hr0⟩ : ∃ r, nameE (patV x1) (nameE (decide (x2.data = #[42]) || protoV x2) (nameE (ofV smallL x3) (putE (st 10).rs { host := x1, proto := x2, backend := x3 } (fun x => decide (lowB x.host = lowB x1) && decide (x.proto.data = x2.data)) id))) = r := ⟨_, rfl⟩
  have hrel : nameE (patV x1) (nameE (decide (x2.data = #[42]) || protoV x2) (nameE (ofV smallL x3) (putE (st 10).rs { host := x1, proto := x2, backend := x3 } (fun x => decide (lowB x.host = lowB x1) && decide (x.proto.data = x2.data)) fun l => ({ st 10 with rs := l } : Slot)))) =
      mapR (fun l => ({ st 10 with rs := l } : Slot)) r := by
    rw [← hr0, ← nameE_map, ← nameE_map, ← nameE_map, putE_mapR]
  rw [hrel]
  rw [hr0] at h
  have hsub : ∀ b, (b = rb ∨ b = sm ∨ rv.ownBlock = some b) → Mine w B rb sm b := fun b hb => hb.imp id (Or.imp id fun e => by
    obtain ⟨h1, c, fz, hh⟩ := own_kind D.Rt e
    exact ⟨h1, c, _, fz, hh, .inr (.inr rfl)⟩)
  refine ⟨h.1.mono fun b _ hb => hsub b hb, ?_⟩
  have h2 := h.2
  cases r with
  | error c => exact h2
  | ok l =>
    obtain ⟨he, v', hb, hm, ho⟩ := h2
    obtain ⟨_, hr⟩ := nameE_ok hr0
    obtain ⟨_, hr⟩ := nameE_ok hr
    obtain ⟨_, hr⟩ := nameE_ok hr
    obtain ⟨hn, rfl⟩ := putE_len hr
    have hrow : ∀ {base n size : Nat} {e : TypeId} {v : Value} {xs : List Value}, w.ownsRow base e size v n xs → e ≠ 59 → e ≠ 68 → w'.ownsRow base e size v n xs := fun ho h1 h2 =>
      D.row h.1 (T := 68) (fun g hg => (own_kind D.Rt hg).2) (fun b hb => hb) ho h1 h2
    have t8 : ∀ v, turn st 10 v 8 = st 8 := fun v => if_neg (by omega)
    have t9 : ∀ v, turn st 10 v 9 = st 9 := fun v => if_neg (by omega)
    refine ⟨he, hv, bv, v', hs, es, clk, ?_⟩
    exact {
      R := hb
      M := hm
      K := D.K
      seen := fun j hj x hx => by
        rw [show turn st 10 _ j = st j from if_neg (by omega)]
        exact D.seen j hj x hx
      H := hrow D.H (by decide) (by decide)
      P := fun b hb => hrow (D.P b hb) (by decide) (by decide)
      hh := by rw [t8]; exact D.hh
      Bk := by rw [t9]; exact hrow D.Bk (by decide) (by decide)
      Rt := ho
      nH := D.nH
      nB := by rw [t9]; exact D.nB
      nR := by show ((st 10).rs ++ [_]).length ≤ 16; simp; omega
      zH := D.zH
      zR := fun b hb => by
        rcases List.mem_append.1 (show b ∈ (st 10).rs ++ [_] from hb) with hb | hb
        · exact D.zR b hb
        · rw [List.mem_singleton.1 hb]
          exact hx1
      ge := D.ge }
end
end Go.Proofs.YtjokcflpjpophaaGreatDoor
