/-
  A nil stack: its methods.
-/
import Derived.Test.YtibgiohijknmbaaGreatDoorAwake
import Derived.Test.YtibgiohijknmbaaGreatDoorFetch2
import Derived.Test.YtibgiohijknmbaaGreatDoorPOpq2
namespace Go.Proofs.YtibgiohijknmbaaGreatDoor
open Go.RowKit
set_option linter.unusedVariables false
set_option linter.unusedSimpArgs false

theorem create_nil (v : Value) (q : ByteArray) (w : World) :
    Calls Tryz.prog 9 #[.pointer none, v, .string q] w fun e w' => e = .returned (.tuple #[.int .i64 0, .int .i64 1]) ∧ Below w.heap.size w w' := by
  go_enter Tryz.func9, Tryz.ntmps9
  go_wp2_with fail
  go_ret2
  exact ⟨rfl, Below.refl _ _⟩
theorem slice_nil (h : Int) (a b : Option Addr) (q : ByteArray) (w : World) :
    Calls Tryz.prog 10 #[.pointer none, .int .i64 h, .pointer a, .pointer b, .string q] w fun e w' => e = .returned (.tuple #[.int .i64 0, .int .i64 1]) ∧ Below w.heap.size w w' := by
  go_enter Tryz.func10, Tryz.ntmps10
  go_wp2_with fail
  go_ret2
  exact ⟨rfl, Below.refl _ _⟩
theorem register_nil (os oh : ByteArray) (op on h : Int) (w : World) (r : Array Value) :
    Calls Tryz.prog 11 #[.pointer none, .agg (oriV os oh op on), .int .i64 h, .agg r] w fun e w' => e = .returned (.tuple #[.string ⟨#[]⟩, .int .i64 1]) ∧ Below w.heap.size w w' := by
  unfold oriV
  go_enter Tryz.func11, Tryz.ntmps11
  go_wp2_with fail
  go_ret2
  exact ⟨rfl, ((Below.refl _ _).alloc (Nat.le_refl _) _).alloc (by simp) _⟩
theorem notice_nil (w : World) :
    Calls Tryz.prog 12 #[.pointer none] w fun e w' => e = .returned (.tuple #[.string ⟨#[]⟩, .bool false]) ∧ Below w.heap.size w w' := by
  go_enter Tryz.func12, Tryz.ntmps12
  go_wp2_with fail
  go_ret2
  exact ⟨rfl, Below.refl _ _⟩
theorem blob_nil (a b c d : ByteArray) (hh : Bool) (po : Int) (oq : Bool) (t : ByteArray) (pa : Option Addr) (pn pc : Nat) (hq hf : Bool) (qu fr : ByteArray) (os oh : ByteArray) (op on : Int) (w : World) :
    Calls Tryz.prog 13 #[.pointer none, .agg #[.string a, .string b, .string c, .string d, .bool hh, .int .i64 po, .bool oq, .string t, .slice pa pn pc, .bool hq, .bool hf, .string qu, .string fr], .agg (oriV os oh op on)] w
      fun e w' => e = .returned (.tuple #[.pointer none, .bool false]) ∧ Below w.heap.size w w' := by
  unfold oriV
  go_enter Tryz.func13, Tryz.ntmps13
  go_wp2_with fail
  go_ret2
  exact ⟨rfl, ((Below.refl _ _).alloc (Nat.le_refl _) _).alloc (by simp) _⟩
theorem forget_nil (h : Int) (w : World) :
    Calls Tryz.prog 14 #[.pointer none, .int .i64 h] w fun e w' => e = .returned (.bool false) ∧ Below w.heap.size w w' := by
  go_enter Tryz.func14, Tryz.ntmps14
  go_wp2_with fail
  go_ret
  exact ⟨rfl, Below.refl _ _⟩
theorem revoke_nil (s os oh : ByteArray) (op on : Int) (w : World) :
    Calls Tryz.prog 15 #[.pointer none, .string s, .agg (oriV os oh op on)] w fun e w' => e = .returned (.bool false) ∧ Below w.heap.size w w' := by
  unfold oriV
  go_enter Tryz.func15, Tryz.ntmps15
  go_wp2_with fail
  go_ret
  exact ⟨rfl, (Below.refl _ _).alloc (Nat.le_refl _) _⟩
theorem bytes_nil (w : World) :
    Calls Tryz.prog 16 #[.pointer none] w fun e w' => e = .returned (.int .i64 0) ∧ Below w.heap.size w w' := by
  go_enter Tryz.func16, Tryz.ntmps16
  go_wp2_with fail
  go_ret
  exact ⟨rfl, Below.refl _ _⟩
theorem urls_nil (w : World) :
    Calls Tryz.prog 17 #[.pointer none] w fun e w' => e = .returned (.slice none 0 0) ∧ Below w.heap.size w w' := by
  go_enter Tryz.func17, Tryz.ntmps17
  go_wp2_with fail
  go_ret
  exact ⟨rfl, Below.refl _ _⟩
end Go.Proofs.YtibgiohijknmbaaGreatDoor
