/- What stands behind each line's name: its two functions, and what they answer. Conditions: the map of lines, the reader, the words and the library's variables are there. -/
import Derived.Test.YtjokcflpjpophaaGreatDoorReader
namespace Go.Proofs.YtjokcflpjpophaaGreatDoor
open Go.RowKit

theorem bindE_err {α β : Type} {x : Except Int α} {f : α → Except Int β} {c : Int} (h : bindE x f = .error c) : x = .error c ∨ ∃ v, x = .ok v ∧ f v = .error c := by
  cases x with
  | error k => exact .inl (by cases h; rfl)
  | ok v => exact .inr ⟨v, rfl, h⟩
theorem nameE_err {α : Type} {b : Bool} {k : Except Int α} {c : Int} (h : nameE b k = .error c) : (b = false ∧ c = 223) ∨ (b = true ∧ k = .error c) := by
  cases b with
  | false => exact .inl ⟨rfl, by cases h; rfl⟩
  | true => exact .inr ⟨rfl, h⟩

/-- What a line's function finds. -/
structure LineIn (W : World) (ww cap B rb sm Bl k : Nat) (xs : List ByteArray) (st : St) : Prop where
  lines : LinesAt W Bl
  words : WordsIn W ww xs
  laid : LaidW W
  rd : RdIs W B rb sm st
  wlt : ww < W.heap.size
  wge : B ≤ ww
  size : ∀ x ∈ xs, x.size ≤ 1000000
  cap : xs.length ≤ cap
  fit : fits k xs = true
  name : lineNames[k]? = xs[0]?

theorem len2 {xs : List ByteArray} (h : xs.length = 2) : ∃ x0 x1, xs = [x0, x1] := by
  match xs, h with
  | [a, b], _ => exact ⟨a, b, rfl⟩
theorem len3 {xs : List ByteArray} (h : xs.length = 3) : ∃ x0 x1 x2, xs = [x0, x1, x2] := by
  match xs, h with
  | [a, b, c], _ => exact ⟨a, b, c, rfl⟩
theorem len4 {xs : List ByteArray} (h : xs.length = 4) : ∃ x0 x1 x2 x3, xs = [x0, x1, x2, x3] := by
  match xs, h with
  | [a, b, c, d], _ => exact ⟨a, b, c, d, rfl⟩
theorem len5 {xs : List ByteArray} (h : xs.length = 5) : ∃ x0 x1 x2 x3 x4, xs = [x0, x1, x2, x3, x4] := by
  match xs, h with
  | [a, b, c, d, e], _ => exact ⟨a, b, c, d, e, rfl⟩

section
variable {W : World} {ww cap B rb sm Bl : Nat} {xs : List ByteArray} {st : St}
theorem one_say (k off q : Nat) (lo hi : Int) (fk : Nat) (hk : k < 8) (hI : LineIn W ww cap B rb sm Bl k xs st) (hlen : xs.length = 2) (hq : OneAt W q lo hi fk)
    (hf : ∀ w, Calls Tryz.prog fk #[.pointer (some ⟨rb, 0, none⟩)] w fun e w' => e = .returned (.pointer (some ⟨rb, off, none⟩)) ∧ w = w')
    (hfe : ∀ args w, (callFunc fk args).run Tryz.prog w = .ok (.enter fk args) w) (ho15 : off ≠ 15)
    (hoff : ∀ hv bv rv, ∃ old, (confC st hv bv rv sm)[off]? = some old)
    (hcf : ∀ hv bv rv n, confC (turn st k { st k with a := n, seen := true }) hv bv rv sm = (confC st hv bv rv sm).setIfInBounds off (.int .i64 n)) :
    Calls Tryz.prog 56 #[.pointer (some ⟨rb, 0, none⟩), .slice (some ⟨ww, 0, none⟩) xs.length cap, .pointer (some ⟨q, 0, none⟩), .pointer (some ⟨q + 1, 0, none⟩), .pointer (some ⟨q + 2, 0, none⟩)] W fun e w' => SayK W w' B rb sm st k (stepOne lo hi xs (st k)) e := by
  obtain ⟨x0, x1, rfl⟩ := len2 hlen
  obtain ⟨hv, bv, rv, hs, es, clk, D⟩ := hI.rd
  obtain ⟨old, ho⟩ := hoff hv bv rv
  have hx1 := hI.size x1 (by simp)
  have n3 : ¬ rb = ww := fun e => by have := D.ge.2.2.1; have := hI.wge; omega
  refine (one1_calls rb sm off q ww fk (confC st hv bv rv sm) old lo hi x0 x1 cap es clk W hI.laid (by omega) hf hfe D.R rfl ho ho15 D.M D.K hq (hI.words 0 x0 rfl) (hI.words 1 x1 rfl) D.R.lt hI.wlt n3).mono ?_
  intro e w' h
  refine D.counted k hk x0 hI.name h _ ?_ ?_
  · intro c hc
    rcases bindE_err hc with hc | ⟨n, _, hc⟩
    · show bindE (numE x1 lo hi) _ = _
      rw [hc]
      rfl
    · cases hc
  · intro C hC
    obtain ⟨n, hn, hC⟩ := bindE_ok hC
    cases hC
    refine ⟨{ st k with a := n }, ?_, rfl, (hcf hv bv rv n).symm⟩
    show bindE (numE x1 lo hi) _ = _
    rw [hn]
    rfl

theorem rate_say (hI : LineIn W ww cap B rb sm Bl 5 xs st) : Calls Tryz.prog 31 #[.pointer (some ⟨rb, 0, none⟩), .slice (some ⟨ww, 0, none⟩) xs.length cap] W fun e w' => SayK W w' B rb sm st 5 (step 5 xs (st 5)) e := by
  obtain ⟨x0, x1, x2, rfl⟩ := len3 (of_decide_eq_true hI.fit)
  obtain ⟨hv, bv, rv, hs, es, clk, D⟩ := hI.rd
  have hx1 := hI.size x1 (by simp)
  have hx2 := hI.size x2 (by simp)
  have n3 : ¬ rb = ww := fun e => by have := D.ge.2.2.1; have := hI.wge; omega
  have n4 : ¬ ww = sm := fun e => by have := D.ge.2.2.2; have := hI.wge; omega
  refine (rate_calls rb sm ww (confC st hv bv rv sm) _ _ x0 x1 x2 cap es clk W hI.laid (by omega) (by omega) D.R rfl rfl rfl D.M D.K (hI.words 0 x0 rfl) (hI.words 1 x1 rfl) (hI.words 2 x2 rfl) hI.wlt n3 ⟨D.ge.1, D.ge.2.1⟩ n4).mono ?_
  intro e w' h
  refine D.counted 5 (by decide) x0 hI.name h _ ?_ ?_
  · intro c hc
    show bindE (numE x1 1 1000) _ = _
    rcases bindE_err hc with hc | ⟨n, hn, hc⟩
    · rw [hc]; rfl
    · rw [hn]
      show bindE (numE x2 0 1000) _ = _
      rcases bindE_err hc with hc | ⟨m, hm, hc⟩
      · rw [hc]; rfl
      · cases hc
  · intro C hC
    obtain ⟨n, hn, hC⟩ := bindE_ok hC
    obtain ⟨m, hm, hC⟩ := bindE_ok hC
    cases hC
    refine ⟨{ st 5 with a := n, b := m }, ?_, rfl, by simp [confC, turn]⟩
    show bindE (numE x1 1 1000) _ = _
    rw [hn]
    show bindE (numE x2 0 1000) _ = _
    rw [hm]
    rfl

theorem tickets_say (hI : LineIn W ww cap B rb sm Bl 6 xs st) : Calls Tryz.prog 34 #[.pointer (some ⟨rb, 0, none⟩), .slice (some ⟨ww, 0, none⟩) xs.length cap] W fun e w' => SayK W w' B rb sm st 6 (step 6 xs (st 6)) e := by
  obtain ⟨x0, x1, x2, x3, rfl⟩ := len4 (of_decide_eq_true hI.fit)
  obtain ⟨hv, bv, rv, hs, es, clk, D⟩ := hI.rd
  have hx1 := hI.size x1 (by simp)
  have hx2 := hI.size x2 (by simp)
  have hx3 := hI.size x3 (by simp)
  refine (tickets_calls rb sm ww (confC st hv bv rv sm) _ _ _ x0 x1 x2 x3 cap es clk W (D.stage hI.laid hI.words hI.wlt hI.wge) (by omega) (by omega) (by omega) rfl rfl rfl).mono ?_
  intro e w' h
  refine D.counted 6 (by decide) x0 hI.name h _ ?_ ?_
  · intro c hc
    show nameE (ofV fileL x1) _ = _
    rcases nameE_err hc with ⟨hb, rfl⟩ | ⟨hb, hc⟩
    · rw [hb]; rfl
    · rw [hb]
      show bindE (numE x2 1 604800) _ = _
      rcases bindE_err hc with hc | ⟨n, hn, hc⟩
      · rw [hc]; rfl
      · rw [hn]
        show bindE (numE x3 0 4) _ = _
        rcases bindE_err hc with hc | ⟨m, hm, hc⟩
        · rw [hc]; rfl
        · cases hc
  · intro C hC
    obtain ⟨hb, hC⟩ := nameE_ok hC
    obtain ⟨n, hn, hC⟩ := bindE_ok hC
    obtain ⟨m, hm, hC⟩ := bindE_ok hC
    cases hC
    refine ⟨{ st 6 with t := x1, a := n, b := m }, ?_, rfl, by simp [confC, turn]⟩
    show nameE (ofV fileL x1) _ = _
    rw [hb]
    show bindE (numE x2 1 604800) _ = _
    rw [hn]
    show bindE (numE x3 0 4) _ = _
    rw [hm]
    rfl

theorem clients_say (hI : LineIn W ww cap B rb sm Bl 7 xs st) : Calls Tryz.prog 37 #[.pointer (some ⟨rb, 0, none⟩), .slice (some ⟨ww, 0, none⟩) xs.length cap] W fun e w' => SayK W w' B rb sm st 7 (step 7 xs (st 7)) e := by
  have hfit := hI.fit
  obtain ⟨x0, x1, x2, rfl⟩ := len3 (show xs.length = 3 from of_decide_eq_true (((Bool.and_eq_true _ _).mp (show (decide (xs.length = 3) && _) = true from hfit)).1))
  obtain ⟨hv, bv, rv, hs, es, clk, D⟩ := hI.rd
  have hx1 := hI.size x1 (by simp)
  refine (clients_calls rb sm ww (confC st hv bv rv sm) _ _ x0 x1 x2 cap es clk W (D.stage hI.laid hI.words hI.wlt hI.wge) (by omega) rfl rfl).mono ?_
  intro e w' h
  refine D.counted 7 (by decide) x0 hI.name h _ ?_ ?_
  · intro c hc
    show nameE (ofV fileL x1) _ = _
    rcases nameE_err hc with ⟨hb, rfl⟩ | ⟨hb, hc⟩
    · rw [hb]; rfl
    · cases hc
  · intro C hC
    obtain ⟨hb, hC⟩ := nameE_ok hC
    cases hC
    refine ⟨{ st 7 with t := x1, m := decide (x2.data = #[109, 117, 115, 116]) }, ?_, rfl, by simp [confC, turn]⟩
    show nameE (ofV fileL x1) _ = _
    rw [hb]
    rfl

theorem host_say (hI : LineIn W ww cap B rb sm Bl 8 xs st) : Calls Tryz.prog 39 #[.pointer (some ⟨rb, 0, none⟩), .slice (some ⟨ww, 0, none⟩) xs.length cap] W fun e w' => SayK W w' B rb sm st 8 (step 8 xs (st 8)) e := by
  obtain ⟨x0, x1, x2, x3, xr, rfl⟩ : ∃ x0 x1 x2 x3 xr, xs = x0 :: x1 :: x2 :: x3 :: xr := by
    have hfit := hI.fit
    match xs, hfit with
    | a :: b :: c :: d :: r, _ => exact ⟨a, b, c, d, r, rfl⟩
    | [], h => exact absurd h (by decide)
    | [a], h => simp [fits] at h
    | [a, b], h => simp [fits] at h
    | [a, b, c], h => simp [fits] at h
  obtain ⟨hv, bv, rv, hs, es, clk, D⟩ := hI.rd
  have hx1 := hI.size x1 (by simp)
  have hc := hI.cap
  simp only [List.length_cons] at hc
  have hh := host_calls B rb sm ww (confC st hv bv rv sm) hv hs x0 x1 x2 x3 xr cap es clk W (D.stage hI.laid hI.words hI.wlt hI.wge) hI.size hI.fit (by omega) rfl (Nat.le_of_lt (Nat.lt_of_le_of_lt hI.wge hI.wlt)) hI.wlt D.H D.P D.zH D.nH
  have el : ((x0 :: x1 :: x2 :: x3 :: xr).length) = xr.length + 4 := rfl
  rw [el]
  refine Calls.mono (by simpa using hh) ?_
  intro e w' h
  exact D.hosted (fun h' e => hostRest_name _ _ _ e) (show x1.size ≤ _ by omega) h

theorem backend_say (hI : LineIn W ww cap B rb sm Bl 9 xs st) : Calls Tryz.prog 40 #[.pointer (some ⟨rb, 0, none⟩), .slice (some ⟨ww, 0, none⟩) xs.length cap] W fun e w' => SayK W w' B rb sm st 9 (step 9 xs (st 9)) e := by
  obtain ⟨x0, x1, x2, x3, x4, rfl⟩ := len5 (of_decide_eq_true hI.fit)
  obtain ⟨hv, bv, rv, hs, es, clk, D⟩ := hI.rd
  have hx1 := hI.size x1 (by simp)
  have hx2 := hI.size x2 (by simp)
  have hx3 := hI.size x3 (by simp)
  have hx4 := hI.size x4 (by simp)
  refine (backend_calls B rb sm ww (confC st hv bv rv sm) bv (st 9).bs x0 x1 x2 x3 x4 cap es clk W (D.stage hI.laid hI.words hI.wlt hI.wge) (by omega) (by omega) (by omega) (by omega) rfl (Nat.le_of_lt (Nat.lt_of_le_of_lt hI.wge hI.wlt)) D.Bk D.nB).mono ?_
  intro e w' h
  exact D.backed h

theorem route_say (hI : LineIn W ww cap B rb sm Bl 10 xs st) : Calls Tryz.prog 41 #[.pointer (some ⟨rb, 0, none⟩), .slice (some ⟨ww, 0, none⟩) xs.length cap] W fun e w' => SayK W w' B rb sm st 10 (step 10 xs (st 10)) e := by
  obtain ⟨x0, x1, x2, x3, rfl⟩ := len4 (of_decide_eq_true hI.fit)
  obtain ⟨hv, bv, rv, hs, es, clk, D⟩ := hI.rd
  have hx1 := hI.size x1 (by simp)
  have hx2 := hI.size x2 (by simp)
  have hx3 := hI.size x3 (by simp)
  refine (route_calls B rb sm ww (confC st hv bv rv sm) rv (st 10).rs x0 x1 x2 x3 cap es clk W (D.stage hI.laid hI.words hI.wlt hI.wge) (by omega) (by omega) (by omega) rfl (Nat.le_of_lt (Nat.lt_of_le_of_lt hI.wge hI.wlt)) D.Rt D.nR D.zR).mono ?_
  intro e w' h
  exact D.routed (show x1.size ≤ _ by omega) h
end

/-- The two functions of a line. -/
structure LineFns (Bl k : Nat) (v : Value) (n1 : Nat) (c1 : Array Value) (n2 : Nat) (c2 : Array Value) : Prop where
  val : v = .agg #[.func (.func n1) #[] c1, .func (.func n2) #[] c2]
  e1 : ∀ args w, (callFunc n1 args).run Tryz.prog w = .ok (.enter n1 args) w
  e2 : ∀ args w, (callFunc n2 args).run Tryz.prog w = .ok (.enter n2 args) w
  fit : ∀ (W : World) (ww cap : Nat) (xs : List ByteArray), LinesAt W Bl → WordsIn W ww xs → Calls Tryz.prog n1 (#[.slice (some ⟨ww, 0, none⟩) xs.length cap] ++ c1) W fun e w' => e = .returned (.bool (fits k xs)) ∧ W = w'
  say : ∀ (W : World) (ww cap B rb sm : Nat) (xs : List ByteArray) (st : St), LineIn W ww cap B rb sm Bl k xs st →
    Calls Tryz.prog n2 (#[.pointer (some ⟨rb, 0, none⟩), .slice (some ⟨ww, 0, none⟩) xs.length cap] ++ c2) W fun e w' => SayK W w' B rb sm st k (step k xs (st k)) e

theorem words_fit {W : World} {q : Nat} {n : Nat} {A : Option Addr} {cap : Nat} {xs : List ByteArray} {k : Nat} (h : WordsAt W q n) (hk : fits k xs = decide (xs.length = n)) :
    Calls Tryz.prog 57 #[.slice A xs.length cap, .pointer (some ⟨q, 0, none⟩)] W fun e w' => e = .returned (.bool (fits k xs)) ∧ W = w' := by
  refine (words1_calls xs.length q n A cap W (Blk.cell h 0)).mono ?_
  rintro e w' ⟨rfl, rfl⟩
  refine ⟨?_, rfl⟩
  rw [hk]
  exact congrArg _ (congrArg _ (decide_eq_decide.2 (by omega)))

theorem enters_words : ∀ args w, (callFunc 57 args).run Tryz.prog w = .ok (.enter 57 args) w := enters_of Tryz.func57 (by kernel_rfl) rfl
theorem enters_one : ∀ args w, (callFunc 56 args).run Tryz.prog w = .ok (.enter 56 args) w := enters_of Tryz.func56 (by kernel_rfl) rfl

theorem line_fns (Bl k : Nat) (e : MapEntry) (he : (lineEntries Bl)[k]? = some e) : ∃ n1 c1 n2 c2, LineFns Bl k e.val n1 c1 n2 c2 := by
  match k, he with
  | 0, he =>
    obtain rfl := Option.some.inj he
    exact ⟨_, _, _, _, rfl, enters_words, enters_one, fun W ww cap xs hl _ => words_fit (n := 2) hl.one0.2.2.2 rfl, fun W ww cap B rb sm xs st hI =>
      one_say 0 0 _ 1 64 25 (by decide) hI (of_decide_eq_true hI.fit) hI.lines.one0 (line1_calls rb) (enters_of Tryz.func25 (by kernel_rfl) rfl) (by decide) (fun _ _ _ => ⟨_, rfl⟩) (fun _ _ _ _ => by simp [confC, turn])⟩
  | 1, he =>
    obtain rfl := Option.some.inj he
    exact ⟨_, _, _, _, rfl, enters_words, enters_one, fun W ww cap xs hl _ => words_fit (n := 2) hl.one1.2.2.2 rfl, fun W ww cap B rb sm xs st hI =>
      one_say 1 1 _ 64 65536 26 (by decide) hI (of_decide_eq_true hI.fit) hI.lines.one1 (line2_calls rb) (enters_of Tryz.func26 (by kernel_rfl) rfl) (by decide) (fun _ _ _ => ⟨_, rfl⟩) (fun _ _ _ _ => by simp [confC, turn])⟩
  | 2, he =>
    obtain rfl := Option.some.inj he
    exact ⟨_, _, _, _, rfl, enters_words, enters_one, fun W ww cap xs hl _ => words_fit (n := 2) hl.one2.2.2.2 rfl, fun W ww cap B rb sm xs st hI =>
      one_say 2 4 _ 1 600000 27 (by decide) hI (of_decide_eq_true hI.fit) hI.lines.one2 (line3_calls rb) (enters_of Tryz.func27 (by kernel_rfl) rfl) (by decide) (fun _ _ _ => ⟨_, rfl⟩) (fun _ _ _ _ => by simp [confC, turn])⟩
  | 3, he =>
    obtain rfl := Option.some.inj he
    exact ⟨_, _, _, _, rfl, enters_words, enters_one, fun W ww cap xs hl _ => words_fit (n := 2) hl.one3.2.2.2 rfl, fun W ww cap B rb sm xs st hI =>
      one_say 3 5 _ 1 600000 28 (by decide) hI (of_decide_eq_true hI.fit) hI.lines.one3 (line4_calls rb) (enters_of Tryz.func28 (by kernel_rfl) rfl) (by decide) (fun _ _ _ => ⟨_, rfl⟩) (fun _ _ _ _ => by simp [confC, turn])⟩
  | 4, he =>
    obtain rfl := Option.some.inj he
    exact ⟨_, _, _, _, rfl, enters_words, enters_one, fun W ww cap xs hl _ => words_fit (n := 2) hl.one4.2.2.2 rfl, fun W ww cap B rb sm xs st hI =>
      one_say 4 6 _ 1 600000 29 (by decide) hI (of_decide_eq_true hI.fit) hI.lines.one4 (line5_calls rb) (enters_of Tryz.func29 (by kernel_rfl) rfl) (by decide) (fun _ _ _ => ⟨_, rfl⟩) (fun _ _ _ _ => by simp [confC, turn])⟩
  | 5, he =>
    obtain rfl := Option.some.inj he
    exact ⟨_, _, _, _, rfl, enters_words, enters_of Tryz.func31 (by kernel_rfl) rfl, fun W ww cap xs hl _ => words_fit (n := 3) hl.words5 rfl, fun W ww cap B rb sm xs st hI => rate_say hI⟩
  | 6, he =>
    obtain rfl := Option.some.inj he
    exact ⟨_, _, _, _, rfl, enters_words, enters_of Tryz.func34 (by kernel_rfl) rfl, fun W ww cap xs hl _ => words_fit (n := 4) hl.words6 rfl, fun W ww cap B rb sm xs st hI => tickets_say hI⟩
  | 7, he =>
    obtain rfl := Option.some.inj he
    exact ⟨_, _, _, _, rfl, enters_of Tryz.func36 (by kernel_rfl) rfl, enters_of Tryz.func37 (by kernel_rfl) rfl, fun W ww cap xs _ hw => fits7_calls xs ww cap W hw, fun W ww cap B rb sm xs st hI => clients_say hI⟩
  | 8, he =>
    obtain rfl := Option.some.inj he
    exact ⟨_, _, _, _, rfl, enters_of Tryz.func38 (by kernel_rfl) rfl, enters_of Tryz.func39 (by kernel_rfl) rfl, fun W ww cap xs _ hw => fits8_calls xs ww cap W hw, fun W ww cap B rb sm xs st hI => host_say hI⟩
  | 9, he =>
    obtain rfl := Option.some.inj he
    exact ⟨_, _, _, _, rfl, enters_words, enters_of Tryz.func40 (by kernel_rfl) rfl, fun W ww cap xs hl _ => words_fit (n := 5) hl.words9 rfl, fun W ww cap B rb sm xs st hI => backend_say hI⟩
  | 10, he =>
    obtain rfl := Option.some.inj he
    exact ⟨_, _, _, _, rfl, enters_words, enters_of Tryz.func41 (by kernel_rfl) rfl, fun W ww cap xs hl _ => words_fit (n := 4) hl.words10 rfl, fun W ww cap B rb sm xs st hI => route_say hI⟩
  | n + 11, he => simp [lineEntries] at he

/-- Which line a word names. -/
theorem kind_find (Bl : Nat) (x : ByteArray) : (kindOf x = none ∧ Instr.findNow .string (.string x) (lineEntries Bl) 0 = some none) ∨
    ∃ k e, kindOf x = some k ∧ (lineEntries Bl)[k]? = some e ∧ Instr.findNow .string (.string x) (lineEntries Bl) 0 = some (some (k, e.val)) ∧ lineNames[k]? = some x := by
  have hkeys : (lineEntries Bl).map (·.key) = lineNames.map Value.string := rfl
  have hk : ∀ y ∈ lineEntries Bl, MapKept.IsKey .string y.key := fun y hy => by
    have : y.key ∈ (lineEntries Bl).map (·.key) := List.mem_map_of_mem hy
    rw [hkeys] at this
    obtain ⟨s, _, e⟩ := List.mem_map.1 this
    rw [← e]
    trivial
  rcases MapKept.findNow_spec (d := .string) (k := .string x) trivial (lineEntries Bl) 0 hk with ⟨h1, h2⟩ | ⟨j, e, h1, h2, h3⟩
  · refine .inl ⟨?_, h1⟩
    cases h : kindOf x with
    | none => rfl
    | some k =>
      exfalso
      obtain ⟨_, y, hy, hd⟩ := placeIn_some _ _ _ _ h
      have hyx : y = x := by cases x; cases y; exact congrArg _ hd.symm
      have hm : Value.string y ∈ (lineEntries Bl).map (·.key) := by
        rw [hkeys]
        exact List.mem_map_of_mem (List.mem_of_getElem? hy)
      obtain ⟨z, hz, e⟩ := List.mem_map.1 hm
      exact h2 z hz (by rw [e, hyx])
  · rw [Nat.zero_add] at h1
    have hj : lineNames[j]? = some x := by
      have := congrArg (·[j]?) hkeys
      simp only [List.getElem?_map, h2, Option.map_some, h3] at this
      cases hn : lineNames[j]? with
      | none => rw [hn] at this; cases this
      | some z =>
        rw [hn] at this
        simp only [Option.map_some, Option.some.injEq, Value.string.injEq] at this
        rw [this]
    refine .inr ⟨j, e, ?_, h2, h1, hj⟩
    have hall : ∀ i : Fin 11, kindOf lineNames[i.1] = some i.1 := by decide +kernel
    have hlt : j < 11 := (List.getElem?_eq_some_iff.1 hj).1
    have := hall ⟨j, hlt⟩
    rw [← this]
    obtain ⟨h', e'⟩ := List.getElem?_eq_some_iff.1 hj
    rw [e']
end Go.Proofs.YtjokcflpjpophaaGreatDoor
