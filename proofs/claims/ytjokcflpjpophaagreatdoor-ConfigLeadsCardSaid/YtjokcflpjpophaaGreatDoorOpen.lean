/- A slice of api.Route that reads as data, opened: its routes, where their cells lie, their strings' bounds. No condition. -/
import Derived.Test.YtjokcflpjpophaaGreatDoorRoute
import Derived.Deep.Slices
import Derived.SizedLaws
import Derived.ChangeArms
namespace Go.Proofs.YtjokcflpjpophaaGreatDoor
open Go.RowKit Go.ChangeShapes Go.WideShapes Go.Deep
variable {H : Type} {enc : TypeId × Value → H}

/-- What a route reads as. -/
def routeD (r : R3) : DataW H := .agg [.lit (.string r.1.data.toList), .lit (.string r.2.1.data.toList), .lit (.int .i64 r.2.2)]

theorem cellsRoute : Tryz.prog.cellsOf 52 = 3 := by kernel_rfl
theorem cellsStr : Tryz.prog.cellsOf 9 = 1 := by kernel_rfl
theorem cellsInt : Tryz.prog.cellsOf 3 = 1 := by kernel_rfl
theorem bytesRoute : Tryz.prog.bytesOf 52 = 40 := by kernel_rfl

instance : Inhabited R3 := ⟨(ByteArray.empty, ByteArray.empty, 0)⟩

set_option maxRecDepth 100000 in
theorem open_routes {w : World} {base : Nat} {spare : Nat → Bool} {held : Bool} {fuel : Nat} {cs : List Value} {x : DataW H × List MemPlace} (h : DataW.trod enc Tryz.prog w base spare held fuel 37 cs = some x) :
    (cs = [.slice none 0 0] ∧ x = (.nil, [])) ∨
    ∃ (a : Addr) (len cap : Nat) (rs : List R3) (sp : List (DataW H)) (ps : List MemPlace), cs = [.slice (some a) len cap] ∧ rs.length = len ∧ x = (.slice (rs.map routeD) sp, ps) ∧
      ∀ (i : Nat) (hi : i < rs.length), w.cell? (a.add (i * 3)) = some (.string rs[i].1) ∧ w.cell? (a.add (i * 3 + 1)) = some (.string rs[i].2.1) ∧ w.cell? (a.add (i * 3 + 2)) = some (.int .i64 rs[i].2.2) := by
  rcases open_slice Tryz.underlying37 h with h0 | ⟨a, len, cap, m, n, D, Pl, rfl, hb, hl, hm, hmm, rfl, hx⟩
  · exact Or.inl h0
  right
  have hlm : len ≤ m := by rw [hmm]; split <;> omega
  have each : ∀ i, i < len → ∃ r : R3, D i = routeD r ∧ w.cell? (a.add (i * 3)) = some (.string r.1) ∧ w.cell? (a.add (i * 3 + 1)) = some (.string r.2.1) ∧ w.cell? (a.add (i * 3 + 2)) = some (.int .i64 r.2.2) := by
    intro i hi
    obtain ⟨cs', h1, h2⟩ := hx i (by omega)
    rw [cellsRoute] at h1
    obtain ⟨_, hlen, hcell⟩ := World.cells?_some h1
    obtain ⟨xs, k, hk, hxy, _, hxl, hf⟩ := DataW.trod_struct Tryz.underlying52 h2
    match xs, hxl, cs', hlen with
    | [y0, y1, y2], _, [v0, v1, v2], _ =>
      have g0 := hf 0 _ rfl
      have g1 := hf 1 _ rfl
      have g2 := hf 2 _ rfl
      simp [cellsStr, cellsInt] at g0 g1 g2
      have e0 := hcell 0 (by omega)
      have e1 := hcell 1 (by omega)
      have e2 := hcell 2 (by omega)
      rw [add_add] at e0 e1 e2
      simp only [Prod.mk.injEq] at hxy
      obtain ⟨s0, q0, rfl, _⟩ := DataW.trod_string Tryz.underlying9 g0
      obtain ⟨s1, q1, rfl, _⟩ := DataW.trod_string Tryz.underlying9 g1
      obtain ⟨s2, q2, rfl, _⟩ := DataW.trod_int Tryz.underlying3 g2
      simp at q0 q1 q2
      subst q0; subst q1; subst q2
      exact ⟨(s0, s1, s2), by simpa [routeD] using hxy.1, by simpa using e0, by simpa using e1, by simpa using e2⟩
  obtain ⟨r, hr⟩ := choose_lt each
  have hD : (List.range len).map D = ((List.range len).map r).map routeD := by
    rw [List.map_map]
    exact List.map_congr_left fun i hi => (hr i (List.mem_range.1 hi)).1
  rw [hD]
  refine ⟨a, len, cap, (List.range len).map r, _, _, rfl, by simp, rfl, fun i hi => ?_⟩
  · have hi' : i < len := by simpa using hi
    simp only [List.getElem_map, List.getElem_range]
    exact (hr i hi').2

/-- The routes' cells behind an address that is no field's. -/
theorem routes_at {w : World} {a : Addr} {rs : List R3}
    (h : ∀ (i : Nat) (hi : i < rs.length), w.cell? (a.add (i * 3)) = some (.string rs[i].1) ∧ w.cell? (a.add (i * 3 + 1)) = some (.string rs[i].2.1) ∧ w.cell? (a.add (i * 3 + 2)) = some (.int .i64 rs[i].2.2)) (hp : 0 < rs.length) :
    ∃ b off, a = ⟨b, off, none⟩ ∧ b < w.heap.size ∧ RoutesAt w b off rs := by
  obtain ⟨b, off, spot⟩ := a
  have hspot : spot = none := by simpa [Addr.add] using World.cell?_spot (h 0 hp).1
  subst hspot
  refine ⟨b, off, rfl, ?_, fun i hi => ?_⟩
  · have := (h 0 hp).1
    rw [add_plain] at this
    unfold World.cell? at this
    cases hh : w.heap[b]? with
    | none => simp [hh] at this
    | some o => exact (Array.getElem?_eq_some_iff.1 hh).1
  · have := h i hi
    simp only [add_plain] at this
    exact this

theorem routes_sized {ts : List TypeId} {ds : List (DataW H)} (h : (DataW.weightsEach Tryz.prog ts ds).all (· ≤ reachBytes) = true) {j : Nat} {rs : List R3} {sp : List (DataW H)} (ht : ts[j]? = some 37) (hd : ds[j]? = some (.slice (rs.map routeD) sp)) :
    rs.length ≤ 140737488351232 ∧ ∀ (i : Nat) (hi : i < rs.length), rs[i].1.size ≤ 140737488351232 := by
  have h1 := sized_slice h ht hd Tryz.underlying37
  rw [bytesRoute, List.length_map] at h1
  unfold reachBytes at h1
  refine ⟨by omega, fun i hi => ?_⟩
  have hall : ∀ (l : List R3), ∀ r ∈ l, r.1.data.toList.length ∈ DataW.weightsAll (H := H) Tryz.prog 52 (l.map routeD) := by
    intro l
    induction l with
    | nil => intro r hr; cases hr
    | cons q l ih =>
      intro r hr
      simp only [List.map_cons, DataW.weightsAll, List.mem_append]
      rcases List.mem_cons.1 hr with rfl | hr
      · left
        simp [routeD, DataW.weights, Tryz.underlying52, DataW.weightsEach]
      · exact Or.inr (ih r hr)
  have := List.all_eq_true.1 h _ (DataW.weights_mem_each ht hd rs[i].1.data.toList.length (by
    simp only [DataW.weights, Tryz.underlying37, List.mem_cons, List.mem_append]
    exact Or.inr (Or.inl (hall rs _ (List.getElem_mem hi)))))
  have h2 : rs[i].1.data.toList.length ≤ reachBytes := by simpa using this
  unfold reachBytes at h2
  rw [Lib.size_eq]
  omega
end Go.Proofs.YtjokcflpjpophaaGreatDoor
