/-
  Joined texts: Closed.
-/
import Derived.Test.YtibgiohijknmbaaGreatDoorM16
import Derived.SevenTiedAt
/-
  The closed facts that the rows of this seat share, each for itself (one declaration for all of them outgrows the kernel's lid).
-/
namespace Go.Proofs.YtibgiohijknmbaaGreatDoor
open Go.RowKit
set_option maxRecDepth 100000
theorem p_laid : laidOutB Tryz.checked.prog = true := by kernel_rfl
theorem p_rowed : mapsRowed Tryz.checked.prog = true := by kernel_rfl
theorem p_heard : Tryz.checked.prog.stopsHeard = true := by kernel_rfl
theorem p_enter : Tryz.checked.prog.mayEnter = true := by kernel_rfl
theorem p_lifts : Tryz.checked.prog.liftsFinal = Rows.stackNilRow.lifted := by kernel_rfl
theorem p_make : Tryz.checked.prog.make = some Rows.stackNilRow.make := by kernel_rfl
theorem p_keys : Tryz.checked.prog.plainKeys = Rows.stackNilRow.plainKeys := by kernel_rfl
theorem p_stops : Tryz.checked.prog.stops = [] := by kernel_rfl
theorem p_knobs : Tryz.checked.prog.stopKnobs = [] := by kernel_rfl
theorem p_main : Tryz.checked.prog.mainIs = some (true, "3065b7268b499d9be64a83df9c0786a8dcd62240f7f14b831331270e32e5fb8d".toList) := by kernel_rfl
theorem p_looks : true = Tryz.checked.prog.looks [] := by kernel_rfl
end Go.Proofs.YtibgiohijknmbaaGreatDoor
