/- Rows of bytes: cells that are bytes read back as a text; a row just laid is owned; an append onto a row without room. Conditions: plain lemmas about the model. -/
import Derived.Test.YtnlboodclaliaaaGreatDoorTold
import Derived.Laws.IdiomStrings
import Derived.Lib.FrozenHead2
namespace Go.Proofs.YtnlboodclaliaaaGreatDoor
open Go.RowKit Go.Lib

/-- Cells that are bytes. -/
def AllB (xs : List Value) : Prop := ∃ l : List UInt8, xs = l.map fun b => .int .u8 (b.toNat : Int)
theorem AllB.nil : AllB [] := ⟨[], rfl⟩
theorem AllB.append {xs ys : List Value} (h : AllB xs) (k : AllB ys) : AllB (xs ++ ys) := by
  obtain ⟨l, rfl⟩ := h
  obtain ⟨m, rfl⟩ := k
  exact ⟨l ++ m, by simp⟩
theorem AllB.cons {n : Int} {xs : List Value} (h0 : 0 ≤ n) (h1 : n < 256) (h : AllB xs) : AllB (.int .u8 n :: xs) := by
  obtain ⟨l, rfl⟩ := h
  refine ⟨UInt8.ofNat n.toNat :: l, ?_⟩
  have e : ((UInt8.ofNat n.toNat).toNat : Int) = n := by
    rw [UInt8.toNat_ofNat']
    omega
  simp only [List.map_cons, e]
theorem AllB.str (s : ByteArray) : AllB (strCells s) := ⟨s.data.toList, rfl⟩
theorem AllB.one {xs : List Value} (h : AllB xs) : ∀ u ∈ xs, u.oneCell' = true := by
  obtain ⟨l, rfl⟩ := h
  intro u hu
  obtain ⟨b, _, rfl⟩ := List.mem_map.1 hu
  rfl

theorem own_new (w : World) (C : Array Value) (e : TypeId) (h : C.size ≤ maxLen) : (w.alloc (.cells C e)).ownsRow w.heap.size e 1 (.slice (some ⟨w.heap.size, 0, none⟩) C.size C.size) C.size C.toList :=
  ⟨by simp, .inr ⟨w.heap.size, C.size, C, rfl, Nat.le_refl _, Blk.new w C e, Nat.le_refl _, h, by simp, by rw [Nat.mul_one]; exact List.take_of_length_le (by simp)⟩⟩

theorem own_le {w : World} {base base' size n : Nat} {e : TypeId} {v : Value} {xs : List Value} (h : w.ownsRow base e size v n xs) (hb : base' ≤ base) : w.ownsRow base' e size v n xs :=
  ⟨h.1, h.2.elim Or.inl (fun ⟨g, cap, cur, hv, hg, r⟩ => Or.inr ⟨g, cap, cur, hv, Nat.le_trans hb hg, r⟩)⟩

/-- What a call hands back: a slice of its own whose cells are xs. -/
def Gives (w w' : World) (e : Ending) (xs : List Value) : Prop :=
  ∃ g cap, e = .returned (.slice (some ⟨g, 0, none⟩) xs.length cap) ∧ w.heap.size ≤ g ∧ g < w'.heap.size ∧ Below w.heap.size w w' ∧ ∀ j u, xs[j]? = some u → w'.cell? ⟨g, j, none⟩ = some u

theorem Gives.of_own {w w' : World} {v : Value} {n : Nat} {xs : List Value} {t : TypeId} (h : w'.ownsRow w.heap.size t 1 v n xs) (hn : 0 < n) (hB : Below w.heap.size w w') : Gives w w' (.returned v) xs := by
  obtain ⟨g, cap, rfl⟩ := own_shape h hn
  have hl := h.1
  have hlt := h.lt g rfl
  refine ⟨g, cap, by rw [hl, Nat.mul_one], hlt.1, hlt.2, hB, fun j u hu => ?_⟩
  have := (World.ownsRowF_of h).cells (g := g) rfl j u hu
  rwa [add_off] at this

section
variable {P : Program}
/-- append onto a row that is full: a new row. -/
theorem wpList_append_full {ops : Array Oper} {rest : List Oper} {o : Oper} {a : Act} {Q : Exit → Act → World → Prop} (w : World) (hgd : o.guard = none) (s x : Operand) (t : TypeId)
    (ho : o.op = .call { callee := .builtin .append, args := #[s, x], argTypes := #[t, t] })
    (base : Nat) (e : TypeId) (i : TypeInfo) (z : Value) (ht : P.underlying t = some (.slice e)) (hi : P.info? e = some i) (hz : i.zero = some z) (hsize : i.size = 1) (hby : i.bytes = 1) (hzs : z.cells.size = 1)
    (b : Addr) (n : Nat) (xs : List Value) (hs : a.eval s = .slice (some b) n n) (hxl : xs.length = n) (holds : ∀ j u, xs[j]? = some u → w.cell? (b.add j) = some u)
    (ad : Addr) (m c : Nat) (news : List Value) (hx : a.eval x = .slice (some ad) m c) (hl : news.length = m) (hnews : ∀ j u, news[j]? = some u → w.cell? (ad.add j) = some u) (hm : 0 < m)
    (hsm : n + m ≤ 70368744177664) (hbase : base ≤ w.heap.size)
    (h : ∀ v' w', w'.ownsRow base e 1 v' (n + m) (xs ++ news) → w.grownBy w' none → wpList P ops Q rest (a.put o.dst v') w') : wpList P ops Q (o :: rest) a w := by
  refine wpList_plain hgd fun K hK => ?_
  have hr := run_append_grow (P := P) w t o.type e i z ht hi hz b n n xs (by rw [hsize, hxl, Nat.mul_one]) holds ad m c news (by rw [hsize, hl, Nat.mul_one]) hnews (by omega) (by omega) (growslice_fits (by omega) (by rw [hby]; omega))
  have hge := grownCap_ge w (n + m) n e
  have hcm2 : grownCap w (n + m) n e ≤ maxLen := grownCap_le_maxLen w (n + m) n e (by simp only [maxLen]; omega)
  unfold Oper.wp execOp
  simp only [ho, resolve, invoke, builtin, Sem.run_bind, Sem.run_pure, Result.andThen_ok, List.map_toArray, List.map_cons, List.map_nil, hs, hx, hr]
  refine hK _ _ (h _ _ ⟨by simp [hxl, hl], .inr ⟨w.heap.size, _, _, rfl, hbase, heap_alloc_new w.drew _, hge, hcm2, ?_, ?_⟩⟩ ⟨rfl, rfl, rfl, by simp, fun k hk _ => Below.heap_alloc w.drew _ k hk⟩)
  · simp only [Array.size_append, List.size_toArray, size_zeroCells, hzs, hxl, hl, Nat.mul_one]
    omega
  · simp only [Array.toList_append, List.append_assoc]
    rw [← List.append_assoc]
    exact List.take_left' (by simp [hxl, hl])
end
end Go.Proofs.YtnlboodclaliaaaGreatDoor
