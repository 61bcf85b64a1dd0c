/-
  utf.Valid of a few ASCII bytes; posix.Fine of "/a".
-/
import Derived.Test.YtibgiohijknmbaaGreatDoorPrt
import Derived.Test.YtibgiohijknmbaaGreatDoorSeg
namespace Go.Proofs.YtibgiohijknmbaaGreatDoor
open Go.RowKit
set_option linter.unusedVariables false
set_option linter.unusedSimpArgs false

set_option maxRecDepth 100000 in
set_option maxHeartbeats 1000000 in
theorem uvalid_few (l : List UInt8) (b off cap : Nat) (w : World) (hl : l.length ≤ 8) (hlc : l.length ≤ cap) (hcap : cap ≤ 9223372036854775807) (ha : ∀ c ∈ l, c.toNat < 128) (hby : BytesAt w b off l) :
    Calls Tryz.prog 127 #[.slice (some ⟨b, off, none⟩) l.length cap] w fun e w' => e = .returned (.bool true) ∧ w' = w := by
  have hv := valid_few l b off cap w hl hlc hcap ha hby
  generalize l.length = n at *
  clear hby ha
  go_enter Tryz.func127, Tryz.ntmps127
  go_wp2_with fail
  refine hv.mono ?_
  rintro e w1 ⟨rfl, rfl⟩
  go_wp2
  go_ret
  exact ⟨rfl, rfl⟩
def slashA : ByteArray := ⟨#[47, 97]⟩
def justA : ByteArray := ⟨#[97]⟩
theorem split_a : Lib.splitB ⟨#[47]⟩ 0 (Lib.countB justA ⟨#[47]⟩) justA = [justA] := by decide
theorem count_a : Lib.countB justA ⟨#[47]⟩ = 0 := by decide

set_option maxRecDepth 100000 in
set_option maxHeartbeats 1000000 in
theorem fine_a (m : Int) (w : World) (hm : w.cell? ⟨0, 0, none⟩ = some (.int .i64 m)) (hz : 0 < w.heap.size) :
    Calls Tryz.prog 75 #[.string slashA] w fun e w' => e = .returned (.bool true) ∧ Below w.heap.size w w' := by
  have hcv := esc_conv slashA w
  have hb0 := below_bytesWorld w 5 slashA
  have hby : BytesAt (Lib.bytesWorld w 5 slashA) w.heap.size 0 [47, 97] := fun j hj => by
    rw [Nat.zero_add, Lib.bytesWorld_cell w _ slashA j hj]
    rfl
  have hmm := (hb0.cell (p := ⟨0, 0, none⟩) hz).trans hm
  have hcap : slashA.size ≤ grownCap w slashA.size 0 5 := grownCap_ge w slashA.size 0 5
  have hcap2 := grownCap_le_maxLen w slashA.size 0 5 (by decide)
  generalize grownCap w slashA.size 0 5 = cp at *
  have hW := Lib.bytesWorld_size w 5 slashA
  generalize Lib.bytesWorld w 5 slashA = W at *
  have hc := Tryz.strings_Contains slashA ⟨#[0]⟩ m W (by decide) hmm
  have hs := Tryz.strings_Split justA ⟨#[47]⟩ m W (by decide) hmm (by decide)
  rw [split_a, count_a] at hs
  have hu := uvalid_few [47, 97] w.heap.size 0 cp W (by decide) hcap (by unfold maxLen at hcap2; omega) (by decide) hby
  have e2 : slashA.size = 2 := rfl
  rw [e2] at hcv
  have hv : ([47, 97] : List UInt8).length = 2 := rfl
  rw [hv] at hu
  have hp := Tryz.strings_HasPrefix slashA ⟨#[47]⟩ w
  have e3 : Lib.hasPrefix slashA.data.toList [47] = true := by decide
  have e4 : Lib.contains slashA.data.toList [0] = false := by decide
  have e5 : (⟨#[47]⟩ : ByteArray).data.toList = [47] := rfl
  have e6 : (⟨#[0]⟩ : ByteArray).data.toList = [0] := rfl
  rw [e5, e3] at hp
  rw [e6, e4] at hc
  have e7 : slashA.extract 1 2 = justA := by decide
  clear hby
  go_enter Tryz.func75, Tryz.ntmps75
  go_wp2_with fail
  refine hp.mono ?_
  rintro e w1 ⟨rfl, rfl⟩
  go_wp2_with fail
  refine hu.mono ?_
  rintro e w1 ⟨rfl, rfl⟩
  go_wp2_with fail
  refine hc.mono ?_
  rintro e w1 ⟨rfl, rfl⟩
  go_wp2_with fail
  refine hs.mono ?_
  rintro e w2 ⟨rfl, rfl⟩
  have hcell : (w1.alloc (.cells (List.map Value.string [justA]).toArray 9)).cell? ⟨w1.heap.size, 0, none⟩ = some (.string justA) := Lib.cell_of_heap (heap_last _ _) 0
  have hB1 := hb0.alloc hb0.size (.cells (List.map Value.string [justA]).toArray 9)
  generalize w1.alloc (.cells (List.map Value.string [justA]).toArray 9) = W2 at *
  clear hW
  generalize w1.heap.size = n1 at *
  have q1 : justA.toList = [97] := by rw [ByteArray.toList_eq]; rfl
  clear hs hc hp hu hcv
  go_wp2_with fail
  go_loopw [24] (fun v wr => ∃ k : Nat, k ≤ 1 ∧ v = .int .i64 k ∧ wr = W2) (fun v _ => (1 - intOf v).toNat)
  case atStart => exact ⟨0, by omega, by simp⟩
  case round =>
    obtain ⟨k, hk, rfl, rfl⟩ := hrel
    by_cases hlt : k < 1
    · obtain rfl : k = 0 := by omega
      go_wp2_with fail
      exact ⟨⟨1, by omega, by simp⟩, by simp [intOf]⟩
    · obtain rfl : k = 1 := by omega
      go_wp2_with fail
      go_ret
      exact ⟨rfl, hB1⟩
end Go.Proofs.YtibgiohijknmbaaGreatDoor
