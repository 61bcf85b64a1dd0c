/-
  Joined texts: RowGoe2.
-/
import Derived.Test.YtibgiohijknmbaaGreatDoorM17
/-
  StackGoes's own closed facts.
-/
namespace Go.Proofs.YtibgiohijknmbaaGreatDoor
open Go.RowKit
set_option maxRecDepth 100000
theorem goes_wf : Rows.stackGoesRow.wf (OpenSpec.ofChange Rows.stackGoesSpec) = true := by kernel_rfl
theorem goes_inPlace : Tryz.checked.prog.inPlace 4 = Rows.stackGoesRow.inPlace := by kernel_rfl
theorem goes_unf : Tryz.checked.prog.unfollowed 4 = Rows.stackGoesRow.unfollowed := by kernel_rfl
theorem goes_rec : Tryz.checked.prog.recurses 4 = Rows.stackGoesRow.recurses := by kernel_rfl
theorem goes_named : Tryz.checked.prog.varsNamed 4 = Rows.stackGoesRow.named := by kernel_rfl
theorem goes_func : Tryz.checked.prog.funcNamed Rows.stackGoesRow.func = some 4 := by kernel_rfl
theorem goes_inst : Tryz.f4.isInstance Tryz.checked.prog Rows.stackGoesRow.origin Rows.stackGoesRow.targs := of_decide_eq_true (by kernel_rfl)
theorem goes_wrap : Tryz.f4.isWrapper Tryz.checked.prog Rows.stackGoesRow.wrapper Rows.stackGoesRow.mainSum := by
  unfold Func.isWrapper
  first | (rw [if_pos (by decide +kernel)]; kernel_rfl) | (rw [if_neg (by decide +kernel)]; exact ⟨rfl, rfl⟩)
theorem goes_byText : Rows.stackGoesRow.wfByText (OpenSpec.ofChange Rows.stackGoesSpec) = true := by kernel_rfl
theorem goes_by : false = Rows.stackGoesRow.goesBy Tryz.checked.prog := by kernel_rfl
theorem goes_closed : joinedFacts Tryz.checked.prog 4 Tryz.f4 Rows.stackGoesSpec Rows.stackGoesRow = true := by
  rw [joinedFacts, goes_wf, p_laid, p_rowed, p_stops, p_knobs, goes_inPlace, goes_unf, goes_rec, goes_named, p_keys, p_heard, p_enter, p_lifts, p_make]
  kernel_rfl
end Go.Proofs.YtibgiohijknmbaaGreatDoor
