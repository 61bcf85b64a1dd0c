/-
  carryalllaw27.awake: true.
-/
import Derived.Test.YtibgiohijknmbaaGreatDoorToUrl
import Derived.Test.YtibgiohijknmbaaGreatDoorCreate
import Derived.Lib.SlBytesConst
namespace Go.Proofs.YtibgiohijknmbaaGreatDoor
open Go.RowKit
set_option linter.unusedVariables false
set_option linter.unusedSimpArgs false

def abcL : List UInt8 := [97, 98, 99]
theorem sum0 : sumTo [] (fun _ => abcL) [] = 0 := by decide
theorem sum1 (blk : Nat) : sumTo [(1, blk)] (fun _ => abcL) [(1, blk)] = 3 := by
  simp [sumTo, lenAt, abcL]

set_option maxRecDepth 100000 in
set_option maxHeartbeats 1000000 in
theorem awake_c (m : Int) (w : World) (hm : w.cell? ⟨0, 0, none⟩ = some (.int .i64 m)) (hz : 0 < w.heap.size) :
    Calls Tryz.prog 8 #[] w fun e w' => e = .returned (.bool true) ∧ Below w.heap.size w w' := by
  have hn := stnew_c 1 1 5 w (by decide) (by decide) (by decide) (by decide) (by decide) (by decide)
  unfold capsV at hn
  have hcv := fun (W : World) => Lib.run_convert_bytes_const (P := Tryz.prog) W 29 5 #[.int .u8 97, .int .u8 98, .int .u8 99] 3 3 Tryz.underlying29 Tryz.underlying5
  go_enter Tryz.func8, Tryz.ntmps8
  go_wp2_with fail
  refine hn.mono ?_
  rintro e w1 ⟨s, tb, sb, mb, rfl, hS, hT, hN, hM, hb1⟩
  clear hn hN hM
  go_wp2_with fail
  have hb2 : Below w1.heap.size w1 (w1.alloc (.cells #[.int .u8 97, .int .u8 98, .int .u8 99] 5 (3, 4))) := (Below.refl _ _).alloc (Nat.le_refl _) _
  have hby : BytesAt (w1.alloc (.cells #[.int .u8 97, .int .u8 98, .int .u8 99] 5 (3, 4))) w1.heap.size 0 abcL := fun j hj => by
    have hj' : j < 3 := hj
    rw [Nat.zero_add, Lib.cell_of_heap (heap_last _ _)]
    match j, hj' with
    | 0, _ => rfl
    | 1, _ => rfl
    | 2, _ => rfl
  have hS2 := hS.later hb2
  have hT2 := hT.later hb2
  have hB1 := hb1.alloc hb1.size (.cells #[.int .u8 97, .int .u8 98, .int .u8 99] 5 (3, 4))
  have hsz : w1.heap.size < (w1.alloc (.cells #[.int .u8 97, .int .u8 98, .int .u8 99] 5 (3, 4))).heap.size := by simp
  generalize w1.alloc (.cells #[.int .u8 97, .int .u8 98, .int .u8 99] 5 (3, 4)) = W2 at *
  have hc := create_c w.heap.size s tb sb mb 5 [] 1 0 (fun _ => abcL) (fun _ => ⟨(kindF []).toArray⟩) abcL w1.heap.size 0 3 ⟨#[]⟩ W2 hS2 hT2 (fun e he => by simp at he) hby hsz (by decide) (by decide) (by decide) (by decide) (by decide) (by decide)
  refine hc.mono ?_
  rintro e w3 ⟨blk, hblk, hBl, h3⟩
  rw [sum0, if_neg (by decide), if_neg (by decide)] at h3
  obtain ⟨rfl, hT3, hb3, hk3, hch3⟩ := h3
  have hS3 := hS2.ty hk3 (by decide)
  have hB3 : Below w.heap.size w w3 := hB1.trans hb3
  have hm3 : w3.cell? ⟨0, 0, none⟩ = some (.int .i64 m) := (hB3.cell (p := ⟨0, 0, none⟩) hz).trans hm
  have hBA : BlobsAt w3 w.heap.size [(1, blk)] (fun _ => abcL) (fun _ => ⟨(kindF []).toArray⟩) := fun e he => by
    simp at he
    subst he
    exact ⟨hBl.base hB1.size, show abcL.length ≤ 1048576 by decide⟩
  clear hcv hc hby hS hT hS2 hT2 hb2 hk3 hch3 hsz
  go_wp2_with fail
  refine (tourl_a m w3 hm3 (Nat.lt_of_lt_of_le hz hB3.size)).mono ?_
  rintro e w4 ⟨rfl, hb4⟩
  have hy := sbytes_c w.heap.size s tb sb mb 5 [(1, blk)] 1 1 (fun _ => abcL) (fun _ => ⟨(kindF []).toArray⟩) w4 (hS3.later hb4) (hT3.later hb4) (hBA.later hb4)
  rw [sum1] at hy
  have hB4 := hB3.trans (hb4.mono hB3.size)
  clear hBA hT3 hS3 hBl
  go_wp2_with fail
  refine hy.mono ?_
  rintro e w5 ⟨rfl, hb5⟩
  go_wp2_with fail
  go_ret
  refine ⟨ret_b ?_, hB4.trans (hb5.mono hB4.size)⟩
  rw [ByteArray.toList_eq]
  decide
end Go.Proofs.YtibgiohijknmbaaGreatDoor
