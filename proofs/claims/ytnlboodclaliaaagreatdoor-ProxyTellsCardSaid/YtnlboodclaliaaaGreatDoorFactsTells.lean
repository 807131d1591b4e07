/- ProxyTells: the row's closed facts over the program, each by itself (together they take too much memory). No condition. -/
import Derived.Test.YtnlboodclaliaaaGreatDoorShapeTells
namespace Go.Proofs.YtnlboodclaliaaaGreatDoor
open Go.ChangeShapes Go.WideShapes Go.ChangeAt Go.RowKit Go.Deep
namespace proxyTells
theorem kInPlace : (Rows.proxyTellsRow.inPlace == Tryz.prog.inPlace 3) = true := by kernel_rfl
theorem kUnfollowed : (Rows.proxyTellsRow.unfollowed == Tryz.prog.unfollowed 3) = true := by kernel_rfl
theorem kRecurses : (Rows.proxyTellsRow.recurses == Tryz.prog.recurses 3) = true := by kernel_rfl
theorem kNamed : (Rows.proxyTellsRow.named == Tryz.prog.varsNamed 3) = true := by kernel_rfl
theorem kMapsRowed : mapsRowed Tryz.prog = true := by kernel_rfl
theorem kPlainKeys : (Rows.proxyTellsRow.plainKeys == Tryz.prog.plainKeys) = true := by kernel_rfl
theorem kHeard : Tryz.prog.stopsHeard = true := by kernel_rfl
theorem kEnter : Tryz.prog.mayEnter = true := by kernel_rfl
theorem kFinal : (Rows.proxyTellsRow.lifted == Tryz.prog.liftsFinal) = true := by kernel_rfl
theorem kMake : (Tryz.prog.make == some Rows.proxyTellsRow.make) = true := by kernel_rfl
end proxyTells
end Go.Proofs.YtnlboodclaliaaaGreatDoor
