/- proxy.Header: what it hands back, by its closure's contract. Conditions: the texts within the reach. -/
import Derived.Test.YtnlboodclaliaaaGreatDoorBytes
import Derived.IntWalk
namespace Go.Proofs.YtnlboodclaliaaaGreatDoor
open Go.RowKit Go.Lib

def headB (source id addr : Int) : List Value := [.int .u8 10, .int .u8 0, .int .u8 0, .int .u8 (source % 256), .int .u8 10, .int .u8 0, .int .u8 1, .int .u8 (addr % 256), .int .u8 (id / 256 % 256), .int .u8 (id % 256), .int .u8 1, .int .u8 187]

/-- All that is told, behind its own head. -/
def bodyB (source id addr : Int) (host protocol : ByteArray) : List Value := (headB source id addr ++ tell 2 host) ++ tell 1 protocol
/-- The sixteen bytes ahead, n bytes behind them. -/
def sigB (n : Nat) : List Value := [.int .u8 13, .int .u8 10, .int .u8 13, .int .u8 10, .int .u8 0, .int .u8 13, .int .u8 10, .int .u8 81, .int .u8 85, .int .u8 73, .int .u8 84, .int .u8 10, .int .u8 33, .int .u8 17, .int .u8 (n / 256), .int .u8 (n % 256)]
theorem tell_len (k : Int) (s : ByteArray) : (tell k s).length ≤ 258 := by
  unfold tell
  split
  · simp
  · have hl : (strCells (s.extract 0 255)).length = (s.extract 0 255).size := by unfold strCells; rw [List.length_map]; exact (Lib.size_eq _).symm
    rw [List.length_append, hl, cut_size]
    simp only [List.length_cons, List.length_nil]
    omega

theorem tell_all (k : Int) (h0 : 0 ≤ k) (h1 : k < 256) (s : ByteArray) : AllB (tell k s) := by
  unfold tell
  split
  · exact .nil
  · have := cut_size s
    exact .append (.cons h0 h1 (.cons (by decide) (by decide) (.cons (by omega) (by omega) .nil))) (.str _)
theorem headB_all (source id addr : Int) : AllB (headB source id addr) :=
  .cons (by decide) (by decide) (.cons (by decide) (by decide) (.cons (by decide) (by decide) (.cons (by omega) (by omega) (.cons (by decide) (by decide) (.cons (by decide) (by decide) (.cons (by decide) (by decide) (.cons (by omega) (by omega) (.cons (by omega) (by omega) (.cons (by omega) (by omega) (.cons (by decide) (by decide) (.cons (by decide) (by decide) .nil)))))))))))
theorem bodyB_all (source id addr : Int) (host protocol : ByteArray) : AllB (bodyB source id addr host protocol) :=
  .append (.append (headB_all source id addr) (tell_all 2 (by decide) (by decide) host)) (tell_all 1 (by decide) (by decide) protocol)

set_option maxRecDepth 100000 in
set_option maxHeartbeats 2000000 in
theorem header_calls (source id addr : Int) (host protocol : ByteArray) (h1 : host.size ≤ 140737488351240) (h2 : protocol.size ≤ 140737488351240) (w : World) :
    Calls Tryz.prog 5 #[.int .i64 source, .int .i64 id, .int .i64 addr, .string host, .string protocol] w fun e w' => Gives w w' e (sigB (12 + (tell 2 host).length + (tell 1 protocol).length) ++ bodyB source id addr host protocol) := by
  have hmf : ∀ (fn : Fn) (first cap : Array Value) (w : World), (Instr.makeFunc fn first cap).run Tryz.prog w = .ok (.func fn first cap) w := fun _ _ _ _ => rfl
  obtain ⟨W1, hW1⟩ : ∃ W, (w.alloc (.cells #[.int .u8 10, .int .u8 0, .int .u8 0, .int .u8 (source % 256), .int .u8 10, .int .u8 0, .int .u8 1, .int .u8 (addr % 256), .int .u8 (id / 256 % 256), .int .u8 (id % 256), .int .u8 1, .int .u8 187] 5)).alloc (.cells #[.slice (some ⟨w.heap.size, 0, none⟩) 12 12] 23) = W := ⟨_, rfl⟩
  have hp1 : Blk W1 (w.heap.size + 1) #[.slice (some ⟨w.heap.size, 0, none⟩) 12 12] 23 := by
    rw [← hW1]
    have := Blk.new (w.alloc (.cells #[.int .u8 10, .int .u8 0, .int .u8 0, .int .u8 (source % 256), .int .u8 10, .int .u8 0, .int .u8 1, .int .u8 (addr % 256), .int .u8 (id / 256 % 256), .int .u8 (id % 256), .int .u8 1, .int .u8 187] 5)) #[.slice (some ⟨w.heap.size, 0, none⟩) 12 12] 23
    rwa [World.size_alloc] at this
  have ho1 : W1.ownsRow w.heap.size 5 1 (.slice (some ⟨w.heap.size, 0, none⟩) 12 12) 12 (headB source id addr) := by
    rw [← hW1]
    exact ⟨rfl, .inr ⟨w.heap.size, 12, _, rfl, Nat.le_refl _, (Blk.new w _ 5).alloc _, Nat.le_refl _, by decide, rfl, rfl⟩⟩
  have y1 : Below w.heap.size w W1 := by rw [← hW1]; exact ((Below.refl _ w).alloc (Nat.le_refl _) _).alloc (by simp) _
  have HW := Lib.hid hW1
  clear hW1
  go_enter Tryz.func5, Tryz.ntmps5
  go_wp2_with fail
  rw [HW.out]
  refine (told_calls w.heap.size (w.heap.size + 1) 12 2 host _ _ W1 h1 hp1 ho1 (by omega) y1.size (by omega)).mono ?_
  rintro e W2 ⟨rfl, y2, v2, hp2, ho2⟩
  have c2 := hp2.cell 0
  have hl2 := tell_len 2 host
  dsimp only
  go_wp2_with fail
  refine (told_calls w.heap.size (w.heap.size + 1) _ 1 protocol _ _ W2 h2 hp2 ho2 (by omega) (by have := y1.size; have := y2.size; omega) (by omega)).mono ?_
  rintro e W3 ⟨rfl, y3, v3, hp3, ho3⟩
  obtain ⟨i0, hi, hz0, hz1, hz2⟩ := info_parts info5
  have hl3 := tell_len 1 protocol
  obtain ⟨N, hN⟩ : ∃ N, 12 + (tell 2 host).length + (tell 1 protocol).length = N := ⟨_, rfl⟩
  rw [hN] at ho3
  obtain ⟨g3, cap3, rfl⟩ := own_shape ho3 (by omega)
  have c3 := hp3.cell 0
  have hlt3 := hp3.lt
  dsimp only
  go_wp2_with (at_builtin; refine wpList_append_own _ rfl (.tmp 39) (.tmp 40) 23 rfl W3.heap.size 5 i0 (.int .u8 0) 1 1 Tryz.underlying23 hi hz0 hz1 hz2 rfl (by decide) _ _ _ rfl (own_new W3 _ _ (by simp [maxLen])) ⟨g3, 0, none⟩ N cap3 (headB source id addr ++ tell 2 host ++ tell 1 protocol) rfl ?c0 ?c1 ?c2 ?c3 ?c4 ?c5 ?_)
  case c0 => exact ho3.1
  case c1 => exact fun j u hj => ((World.ownsRowF_of ho3).alloc _).cells rfl j u hj
  case c2 => exact (bodyB_all source id addr host protocol).one
  case c3 => simp [maxLen]; omega
  case c4 => simp; omega
  case c5 => simp
  intro v4 w4 ho4 hg4 _
  have yW : Below w.heap.size w W3 := (y1.trans y2).trans y3
  have hB4 : Below w.heap.size w w4 := (yW.alloc yW.size _).grown hg4 (by have := yW.size; simp; omega) (fun k e => by cases e; exact yW.size)
  go_wp2
  go_ret
  refine Gives.of_own (n := 16 + N) (t := 5) (own_le (xs := sigB (12 + (tell 2 host).length + (tell 1 protocol).length) ++ bodyB source id addr host protocol) ?_ yW.size) (by omega) hB4
  rw [hN]
  exact ho4
end Go.Proofs.YtnlboodclaliaaaGreatDoor
