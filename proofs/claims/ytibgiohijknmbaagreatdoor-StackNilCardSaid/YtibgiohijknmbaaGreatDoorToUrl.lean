/-
  stack.ToUrl of "/a".
-/
import Derived.Test.YtibgiohijknmbaaGreatDoorPUrl
import Derived.Test.YtibgiohijknmbaaGreatDoorPrt
namespace Go.Proofs.YtibgiohijknmbaaGreatDoor
open Go.RowKit
set_option linter.unusedVariables false
set_option linter.unusedSimpArgs false

theorem comps_a : comps justA = [justA] := by decide
def fileA : ByteArray := ⟨#[102, 105, 108, 101, 58, 47, 47, 47, 97]⟩
theorem bare_a (pv : Value) : (⟨(bareFile (fileP pv) [segB justA]).toArray⟩ : ByteArray) = fileA := by
  show (⟨(bareFile (fileP (.slice none 0 0)) [segB justA]).toArray⟩ : ByteArray) = fileA
  decide

set_option maxRecDepth 100000 in
set_option maxHeartbeats 1000000 in
theorem tourl_a (m : Int) (w : World) (hm : w.cell? ⟨0, 0, none⟩ = some (.int .i64 m)) (hz : 0 < w.heap.size) :
    Calls Tryz.prog 20 #[.int .i64 0, .string slashA] w fun e w' => e = .returned (.tuple #[.string fileA, .int .i64 0]) ∧ Below w.heap.size w w' := by
  have hu := purl_c slashA justA m w hm hz (by decide) (by decide) (by decide) (by rw [comps_a]; intro s hs; simp at hs; rw [hs]; decide) (by decide) (by decide)
    (fun W hb => fine_a m W ((hb.cell (p := ⟨0, 0, none⟩) hz).trans hm) (by have := hb.size; omega))
  rw [comps_a] at hu
  have hpr := fun (W : World) (pa : Option Addr) (pc : Nat) (h : PathRd W pa pc [segB justA]) => print_file (fileP (.slice pa 1 pc)) pa pc [segB justA] rfl rfl rfl rfl rfl rfl rfl W h (show (⟨#[102, 105, 108, 101]⟩ : ByteArray).size ≤ 1073741824 by decide) (show (⟨#[]⟩ : ByteArray).size ≤ 1073741824 by decide) (by decide) (show (⟨#[]⟩ : ByteArray).size ≤ 1073741824 by decide)
  go_enter Tryz.func20, Tryz.ntmps20
  go_wp2_with fail
  refine hu.mono ?_
  rintro e w1 ⟨pv, rfl, hO, hb1⟩
  obtain ⟨pa, pc, rfl, hR⟩ := hO.rd
  have hR2 := hR.below (w' := w1.alloc (.cells (fileP (.slice pa 1 pc)).url 41)) ((Below.refl _ _).alloc (Nat.le_refl _) _)
  have hp2 := hpr _ _ _ hR2
  rw [bare_a] at hp2
  have hB := hb1.alloc hb1.size (.cells (fileP (.slice pa 1 pc)).url 41)
  have hU : (fileP (.slice pa 1 pc)).url = #[.string ⟨#[102, 105, 108, 101]⟩, .string ⟨#[]⟩, .string ⟨#[]⟩, .string ⟨#[]⟩, .bool true, .int .i64 (-1), .bool false, .string ⟨#[]⟩, .slice pa 1 pc, .bool false, .bool false, .string ⟨#[]⟩, .string ⟨#[]⟩] := rfl
  have e1 : (.slice pa ([justA].map segB).length pc : Value) = .slice pa 1 pc := rfl
  rw [e1]
  rw [hU] at hp2 hB ⊢
  clear hpr hO hR hR2 hu hU e1
  go_wp2_with fail
  refine hp2.mono ?_
  rintro e w2 ⟨rfl, hb2⟩
  go_wp2_with fail
  go_ret2
  exact ⟨rfl, hB.trans (hb2.mono hB.size)⟩
end Go.Proofs.YtibgiohijknmbaaGreatDoor
