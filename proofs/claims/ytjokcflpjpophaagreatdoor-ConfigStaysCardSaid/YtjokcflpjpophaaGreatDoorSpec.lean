/- What config.Parse reads, in plain terms: words, numbers, names, lines, and what each line turns. Definitions, and what of them the law needs. No condition. -/
import Derived.Test.YtjokcflpjpophaaGreatDoorStaysLaw
import Derived.Test.YtjokcflpjpophaaGreatDoorHostLaw
import Derived.Test.YtjokcflpjpophaaGreatDoorShelf
namespace Go.Proofs.YtjokcflpjpophaaGreatDoor
open Go.RowKit

structure HostL where
  name : ByteArray
  cert : ByteArray
  key : ByteArray
  staple : ByteArray
  protocols : List ByteArray
structure BackL where
  name : ByteArray
  addr : Int
  host : ByteArray
  roots : ByteArray
structure RouteL where
  host : ByteArray
  proto : ByteArray
  backend : ByteArray
/-- What is kept of one kind of lines. -/
structure Slot where
  seen : Bool
  a : Int
  b : Int
  t : ByteArray
  m : Bool
  hs : List HostL
  bs : List BackL
  rs : List RouteL
abbrev St := Nat → Slot

/-- The words of a line. -/
def wordsOf (s : ByteArray) : List ByteArray := Lib.splitB ⟨#[32]⟩ 0 (Lib.countB s ⟨#[32]⟩) s

def lineNames : List ByteArray := [⟨#[112, 97, 105, 114, 115]⟩, ⟨#[98, 117, 102, 102, 101, 114]⟩, ⟨#[104, 97, 110, 100, 115, 104, 97, 107, 101]⟩, ⟨#[105, 100, 108, 101]⟩, ⟨#[100, 114, 97, 105, 110]⟩,
  ⟨#[114, 97, 116, 101]⟩, ⟨#[116, 105, 99, 107, 101, 116, 115]⟩, ⟨#[99, 108, 105, 101, 110, 116, 115]⟩, ⟨#[104, 111, 115, 116]⟩, ⟨#[98, 97, 99, 107, 101, 110, 100]⟩, ⟨#[114, 111, 117, 116, 101]⟩]
/-- The place of a name among the names from n on. -/
def placeIn (x : ByteArray) : List ByteArray → Nat → Option Nat
  | [], _ => none
  | y :: r, n => if x.data = y.data then some n else placeIn x r (n + 1)
def kindOf (x : ByteArray) : Option Nat := placeIn x lineNames 0

/-- A number, if a word is one that may be. -/
def numV (s : ByteArray) (lo hi : Int) : Option Int :=
  match Lib.atoiAll s.data.toList with
  | .ok n => if s.size ≤ 6 ∧ (Lib.itoa n = s.data.toList ∧ (lo ≤ n ∧ n ≤ hi)) then some n else none
  | _ => none
def smallL : List UInt8 := [97, 98, 99, 100, 101, 102, 103, 104, 105, 106, 107, 108, 109, 110, 111, 112, 113, 114, 115, 116, 117, 118, 119, 120, 121, 122]
def fileL : List UInt8 := smallL ++ [48, 49, 50, 51, 52, 53, 54, 55, 56, 57, 45, 95, 46]
def ofV (l : List UInt8) (s : ByteArray) : Bool := decide (s.size ≠ 0 ∧ s.size ≤ 32) && s.data.toList.all (l.contains ·)
def hostV (l : List UInt8) : Bool := decide (0 < counted l)
def patV (s : ByteArray) : Bool := decide (s.data = #[42]) || (hostV (Lib.trimPrefix s.data.toList [42, 46]) && (!Lib.hasPrefix s.data.toList [42, 46] || decide (0 ≤ Lib.indexByte (Lib.trimPrefix s.data.toList [42, 46]) 46)))
def oddRune (c : Nat) : Bool := decide (c < 33) || decide (126 < c) || decide (c = 44)
def protoV (s : ByteArray) : Bool := decide (s.size ≠ 0 ∧ s.size ≤ 32) && !decide (0 ≤ Lib.idxFunc oddRune true s)

def numE (s : ByteArray) (lo hi : Int) : Except Int Int := match numV s lo hi with
  | some n => .ok n
  | none => .error 222
def nameE {α : Type} (b : Bool) (k : Except Int α) : Except Int α := if b = true then k else .error 223
def onceE (v : Slot) : Except Int Slot := if v.seen = true then .error 224 else .ok { v with seen := true }
def putE {α β : Type} (l : List α) (x : α) (alike : α → Bool) (k : List α → β) : Except Int β := if l.any alike = true then .error 224 else if 16 ≤ l.length then .error 2 else .ok (k (l ++ [x]))
def bindE {α β : Type} (x : Except Int α) (f : α → Except Int β) : Except Int β := match x with
  | .ok v => f v
  | .error e => .error e
def wd (W : List ByteArray) (i : Nat) : ByteArray := W.getD i ByteArray.empty

def stepOne (lo hi : Int) (W : List ByteArray) (v : Slot) : Except Int Slot := bindE (numE (wd W 1) lo hi) fun n => onceE { v with a := n }
def stepRate (W : List ByteArray) (v : Slot) : Except Int Slot := bindE (numE (wd W 1) 1 1000) fun n => bindE (numE (wd W 2) 0 1000) fun m => onceE { v with a := n, b := m }
def stepTickets (W : List ByteArray) (v : Slot) : Except Int Slot := nameE (ofV fileL (wd W 1)) (bindE (numE (wd W 2) 1 604800) fun n => bindE (numE (wd W 3) 0 4) fun m => onceE { v with t := wd W 1, a := n, b := m })
def stepClients (W : List ByteArray) (v : Slot) : Except Int Slot := nameE (ofV fileL (wd W 1)) (onceE { v with t := wd W 1, m := decide ((wd W 2).data = #[109, 117, 115, 116]) })
def stapleB (x : ByteArray) : Bool := decide (x.data = #[115, 116, 97, 112, 108, 101])
def pieces (c : UInt8) (x : ByteArray) : List ByteArray := (cuts c x.data.toList).map fun l => ⟨l.toArray⟩
def hostRest : List ByteArray → HostL → Except Int HostL
  | k :: x :: r, h => if stapleB k = true then nameE (ofV fileL x) (hostRest r { h with staple := x })
    else nameE ((pieces 44 x).all protoV) (hostRest r { h with protocols := h.protocols ++ pieces 44 x })
  | _, h => .ok h
def lowB (s : ByteArray) : List UInt8 := s.data.toList.map low
def stepHost (W : List ByteArray) (v : Slot) : Except Int Slot := nameE (patV (wd W 1)) (nameE (ofV fileL (wd W 2)) (nameE (ofV fileL (wd W 3))
  (bindE (hostRest (W.drop 4) { name := wd W 1, cert := wd W 2, key := wd W 3, staple := ByteArray.empty, protocols := [] }) fun h =>
    putE v.hs h (fun x => decide (lowB x.name = lowB h.name)) fun l => { v with hs := l })))
def stepBackend (W : List ByteArray) (v : Slot) : Except Int Slot := nameE (ofV smallL (wd W 1)) (bindE (numE (wd W 2) 0 255) fun n => nameE (hostV (wd W 3).data.toList) (nameE (ofV fileL (wd W 4))
  (putE v.bs { name := wd W 1, addr := n, host := wd W 3, roots := wd W 4 } (fun x => decide (x.name.data = (wd W 1).data)) fun l => { v with bs := l })))
def stepRoute (W : List ByteArray) (v : Slot) : Except Int Slot := nameE (patV (wd W 1)) (nameE (decide ((wd W 2).data = #[42]) || protoV (wd W 2)) (nameE (ofV smallL (wd W 3))
  (putE v.rs { host := wd W 1, proto := wd W 2, backend := wd W 3 } (fun x => decide (lowB x.host = lowB (wd W 1)) && decide (x.proto.data = (wd W 2).data)) fun l => { v with rs := l })))

def step (k : Nat) (W : List ByteArray) (v : Slot) : Except Int Slot := match k with
  | 0 => stepOne 1 64 W v
  | 1 => stepOne 64 65536 W v
  | 2 | 3 | 4 => stepOne 1 600000 W v
  | 5 => stepRate W v
  | 6 => stepTickets W v
  | 7 => stepClients W v
  | 8 => stepHost W v
  | 9 => stepBackend W v
  | _ => stepRoute W v
def alpnB (x : ByteArray) : Bool := decide (x.data = #[97, 108, 112, 110])
def fits (k : Nat) (W : List ByteArray) : Bool := match k with
  | 0 | 1 | 2 | 3 | 4 => decide (W.length = 2)
  | 5 => decide (W.length = 3)
  | 7 => decide (W.length = 3) && (decide ((wd W 2).data = #[97, 115, 107]) || decide ((wd W 2).data = #[109, 117, 115, 116]))
  | 8 => decide (W.length = 4) || (decide (W.length = 6) && (stapleB (wd W 4) || alpnB (wd W 4))) || (decide (W.length = 8) && (stapleB (wd W 4) && alpnB (wd W 6)))
  | 9 => decide (W.length = 5)
  | _ => decide (W.length = 4)

/-- What a line does. -/
def actW (W : List ByteArray) : LineAct Slot := match kindOf (wd W 0) with
  | none => .bad 221
  | some k => if Lib.containsS W ByteArray.empty = true then .bad 221 else if fits k W = true then .on k (step k W) else .bad 221
def act (s : ByteArray) : LineAct Slot := if s.size = 0 ∨ s.data.toList.head? = some 35 then .idle else actW (wordsOf s)

def slot0 : Slot := { seen := false, a := 0, b := 0, t := ByteArray.empty, m := false, hs := [], bs := [], rs := [] }
/-- What stands before the first line. -/
def st0 : St := fun k => match k with
  | 0 => { slot0 with a := 16 }
  | 1 => { slot0 with a := 4096 }
  | 2 => { slot0 with a := 10000 }
  | 3 => { slot0 with a := 60000 }
  | 4 => { slot0 with a := 5000 }
  | 5 => { slot0 with a := 100, b := 100 }
  | _ => slot0
def lost (st : St) : Bool := (st 10).rs.any fun x => !(st 9).bs.any fun b => decide (b.name.data = x.backend.data)
/-- What is handed back behind the last line. -/
def finB (st : St) : Option St × Int := if (st 8).hs.isEmpty || (st 9).bs.isEmpty || lost st then (none, 229) else (some st, 0)
/-- config.Parse. -/
def parseV (s : ByteArray) : Option St × Int × Int := if 16384 < s.size then (none, 0, 2) else ends finB none (runL act (pieces 10 s) 0 st0)
end Go.Proofs.YtjokcflpjpophaaGreatDoor
