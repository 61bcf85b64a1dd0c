/-
  StackNil's own closed facts.
-/
import Derived.Test.YtibgiohijknmbaaGreatDoorClosed
namespace Go.Proofs.YtibgiohijknmbaaGreatDoor
open Go.RowKit
set_option maxRecDepth 100000
theorem nil_wf : Rows.stackNilRow.wf (OpenSpec.ofChange Rows.stackNilSpec) = true := by kernel_rfl
theorem nil_inPlace : Tryz.checked.prog.inPlace 3 = Rows.stackNilRow.inPlace := by kernel_rfl
theorem nil_unf : Tryz.checked.prog.unfollowed 3 = Rows.stackNilRow.unfollowed := by kernel_rfl
theorem nil_rec : Tryz.checked.prog.recurses 3 = Rows.stackNilRow.recurses := by kernel_rfl
theorem nil_named : Tryz.checked.prog.varsNamed 3 = Rows.stackNilRow.named := by kernel_rfl
theorem nil_func : Tryz.checked.prog.funcNamed Rows.stackNilRow.func = some 3 := by kernel_rfl
theorem nil_inst : Tryz.f3.isInstance Tryz.checked.prog Rows.stackNilRow.origin Rows.stackNilRow.targs := of_decide_eq_true (by kernel_rfl)
theorem nil_wrap : Tryz.f3.isWrapper Tryz.checked.prog Rows.stackNilRow.wrapper Rows.stackNilRow.mainSum := by
  unfold Func.isWrapper
  first | (rw [if_pos (by decide +kernel)]; kernel_rfl) | (rw [if_neg (by decide +kernel)]; exact ⟨rfl, rfl⟩)
theorem nil_byText : Rows.stackNilRow.wfByText (OpenSpec.ofChange Rows.stackNilSpec) = true := by kernel_rfl
theorem nil_goes : false = Rows.stackNilRow.goesBy Tryz.checked.prog := by kernel_rfl
theorem nil_closed : joinedFacts Tryz.checked.prog 3 Tryz.f3 Rows.stackNilSpec Rows.stackNilRow = true := by
  rw [joinedFacts, nil_wf, p_laid, p_rowed, p_stops, p_knobs, nil_inPlace, nil_unf, nil_rec, nil_named, p_keys, p_heard, p_enter, p_lifts, p_make]
  kernel_rfl
end Go.Proofs.YtibgiohijknmbaaGreatDoor
