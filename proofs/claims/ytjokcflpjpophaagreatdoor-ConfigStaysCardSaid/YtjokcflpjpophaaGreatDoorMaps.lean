/- Maps keyed by strings that the call itself makes: what an update and a look-up do, whatever the elements are. Conditions: the map's block is there. -/
import Derived.Test.YtjokcflpjpophaaGreatDoorBase
import Derived.MapKept
namespace Go.Proofs.YtjokcflpjpophaaGreatDoor
open Go.RowKit
variable {P : Program}

theorem run_mapPush {w : World} {mty kt et : TypeId} {r clock : Nat} {es : Array MapEntry} {k : ByteArray} {v : Value} (hm : P.underlying mty = some (.map kt et)) (hk : P.underlying kt = some .string) (hb : w.heap[r]? = some (.map es clock))
    (hf : Instr.findNow .string (.string k) es.toList 0 = some none) :
    (Instr.mapUpdate mty (.map (some r)) (.string k) v).run P w = .ok () (w.putObj r (.map (es.push { key := .string k, val := v, born := clock }) (clock + 1))) := by
  have hc : (Instr.checkKey false 10000 kt (.string k)).run P w = .ok () w := MapKept.run_checkKey (k := .string k) hk (by simp [MapKept.IsKey]) false 9999
  simp [Instr.mapUpdate, run_underlying hm, MapKept.run_getObj_map hb, hc, MapKept.run_findKey hk hf, MapKept.run_setObj_map _ hb, Result.andThen, World.putObj]
theorem run_mapSet {w : World} {mty kt et : TypeId} {r clock : Nat} {es : Array MapEntry} {k : ByteArray} {v old : Value} {i : Nat} (hm : P.underlying mty = some (.map kt et)) (hk : P.underlying kt = some .string) (hb : w.heap[r]? = some (.map es clock))
    (hf : Instr.findNow .string (.string k) es.toList 0 = some (some (i, old))) (hi : (es[i]?).map (·.key) = some (.string k)) :
    (Instr.mapUpdate mty (.map (some r)) (.string k) v).run P w = .ok () (w.putObj r (.map (es.modify i fun e => { e with key := .string k, val := v }) clock)) := by
  have hc : (Instr.checkKey false 10000 kt (.string k)).run P w = .ok () w := MapKept.run_checkKey (k := .string k) hk (by simp [MapKept.IsKey]) false 9999
  have hs : (Instr.keyThatStays (.string k) (.string k)).run P w = .ok (.string k) w := MapKept.run_keyThatStays (d := .string) (k := .string k) (by simp [MapKept.IsKey])
  simp [Instr.mapUpdate, run_underlying hm, MapKept.run_getObj_map hb, hc, MapKept.run_findKey hk hf, MapKept.run_setObj_map _ hb, Result.andThen, World.putObj, hi, hs]
theorem run_mapGet {w : World} {mty kt et : TypeId} {r clock : Nat} {es : Array MapEntry} {k : ByteArray} {v : Value} {i : Nat} (hm : P.underlying mty = some (.map kt et)) (hk : P.underlying kt = some .string) (hb : w.heap[r]? = some (.map es clock))
    (hf : Instr.findNow .string (.string k) es.toList 0 = some (some (i, v))) (ok : Bool) :
    (Instr.lookup mty (.map (some r)) (.string k) ok).run P w = .ok (if ok then .tuple #[v, .bool true] else v) w := by
  have hc : ∀ e, (Instr.checkKey e 10000 kt (.string k)).run P w = .ok () w := fun e => MapKept.run_checkKey (k := .string k) hk (by simp [MapKept.IsKey]) e 9999
  simp [Instr.lookup, run_underlying hm, MapKept.run_getObj_map hb, hc, MapKept.run_findKey hk hf, Result.andThen]
theorem run_mapMiss {w : World} {mty kt et : TypeId} {r clock : Nat} {es : Array MapEntry} {k : ByteArray} {z : Value} (hm : P.underlying mty = some (.map kt et)) (hk : P.underlying kt = some .string) (hb : w.heap[r]? = some (.map es clock))
    (hf : Instr.findNow .string (.string k) es.toList 0 = some none) (hz : (zeroValue et).run P w = .ok z w) (ok : Bool) :
    (Instr.lookup mty (.map (some r)) (.string k) ok).run P w = .ok (if ok then .tuple #[z, .bool false] else z) w := by
  have hc : ∀ e, (Instr.checkKey e 10000 kt (.string k)).run P w = .ok () w := fun e => MapKept.run_checkKey (k := .string k) hk (by simp [MapKept.IsKey]) e 9999
  simp [Instr.lookup, run_underlying hm, MapKept.run_getObj_map hb, hc, MapKept.run_findKey hk hf, hz, Result.andThen]

/-- An entry of a map's literal. -/
theorem wpList_insert {ops rest : List Oper} {Q : Exit → Act → World → Prop} {a : Act} {w : World} {dst : Option Tmp} {ty : TypeId} {pos : String} {after : Array Edge} {mty kt et : TypeId} {m kk vv : Operand} {r clock : Nat} {es : Array MapEntry} {k : ByteArray} {v : Value}
    (hm : P.underlying mty = some (.map kt et)) (hk : P.underlying kt = some .string) (em : a.eval m = .map (some r)) (ek : a.eval kk = .string k) (ev : a.eval vv = v) (hb : w.heap[r]? = some (.map es clock))
    (hf : Instr.findNow .string (.string k) es.toList 0 = some none)
    (h : wpList P ops.toArray Q rest (a.put dst undef) (w.putObj r (.map (es.push { key := .string k, val := v, born := clock }) (clock + 1)))) :
    wpList P ops.toArray Q ({ dst, op := .insert mty m kk vv, type := ty, pos, after, guard := none } :: rest) a w := by
  refine wpList_plain rfl (fun K hK => ?_)
  have hr : (execOp a.eval { dst, op := .insert mty m kk vv, type := ty, pos, after, guard := none }).run P w = .ok .skip (w.putObj r (.map (es.push { key := .string k, val := v, born := clock }) (clock + 1))) := by
    have := run_mapPush (P := P) (v := v) hm hk hb hf
    simp [execOp, em, ek, ev, this, Result.andThen]
  unfold Oper.wp
  rw [hr]
  exact hK _ _ h
end Go.Proofs.YtjokcflpjpophaaGreatDoor
