/-
  (*Stack).Fetch; on a nil stack: of about:blank and of blob:null/x.
-/
import Derived.Test.YtibgiohijknmbaaGreatDoorNil
namespace Go.Proofs.YtibgiohijknmbaaGreatDoor
open Go.RowKit
set_option linter.unusedVariables false
set_option linter.unusedSimpArgs false

set_option maxRecDepth 100000 in
set_option maxHeartbeats 1000000 in
theorem sfetch_c (sp : Option Addr) (s os oh : ByteArray) (op on : Int) (tp : Option Addr) (a b c d : Int) (k : ByteArray) (ba : Option Addr) (bn bc : Nat) (w : World)
    (hF : ∀ W, Below w.heap.size w W → Calls Tryz.prog 25 #[.iface 25 (.pointer sp), .string s, .agg (oriV os oh op on), .pointer tp] W fun e w' => e = .returned (.agg (ansV a b c d k (.slice ba bn bc))) ∧ Below W.heap.size W w') :
    Calls Tryz.prog 18 #[.pointer sp, .string s, .agg (oriV os oh op on), .pointer tp] w fun e w' => e = .returned (.agg (ansV a b c d k (.slice ba bn bc))) ∧ Below w.heap.size w w' := by
  have hb0 : Below w.heap.size w ((w.alloc (.cells (oriV os oh op on) 23)).alloc (.cells ans0 47)) := ((Below.refl _ _).alloc (Nat.le_refl _) _).alloc (by simp) _
  have hF0 := hF _ hb0
  have hr0 : ((w.alloc (.cells (oriV os oh op on) 23)).alloc (.cells ans0 47)).heap[w.heap.size + 1]? = some (.cells ans0 47 (0, 0)) := by
    have := heap_last (w.alloc (.cells (oriV os oh op on) 23)) (.cells ans0 47)
    rw [show (w.alloc (.cells (oriV os oh op on) 23)).heap.size = w.heap.size + 1 by simp] at this
    exact this
  have ho0 : ((w.alloc (.cells (oriV os oh op on) 23)).alloc (.cells ans0 47)).heap[w.heap.size]? = some (.cells (oriV os oh op on) 23 (0, 0)) := by
    rw [Below.heap_alloc _ _ _ (by simp)]
    exact heap_last _ _
  have hsz : ((w.alloc (.cells (oriV os oh op on) 23)).alloc (.cells ans0 47)).heap.size = w.heap.size + 2 := by simp
  clear hF
  obtain ⟨W0, hW0⟩ : ∃ W, W = (w.alloc (.cells (oriV os oh op on) 23)).alloc (.cells ans0 47) := ⟨_, rfl⟩
  rw [← hW0] at hF0 hb0 hr0 hsz ho0
  have HW : Hid (((w.alloc (.cells #[.string os, .string oh, .int .i64 op, .int .i64 on] 23)).alloc (.cells #[.int .i64 0, .int .i64 0, .int .i64 0, .int .i64 0, .string ⟨#[]⟩, .slice none 0 0] 47)) = W0) := Lib.hid hW0.symm
  clear hW0
  have c0 : W0.cell? ⟨w.heap.size, 0, none⟩ = some (.string os) := Lib.cell_of_heap ho0 0
  have c1 : W0.cell? ⟨w.heap.size, 1, none⟩ = some (.string oh) := Lib.cell_of_heap ho0 1
  have c2 : W0.cell? ⟨w.heap.size, 2, none⟩ = some (.int .i64 op) := Lib.cell_of_heap ho0 2
  have c3 : W0.cell? ⟨w.heap.size, 3, none⟩ = some (.int .i64 on) := Lib.cell_of_heap ho0 3
  have HR := Lib.hid hr0
  have HSZ := Lib.hid hsz
  clear ho0 hr0 hsz
  unfold oriV at hF0 ⊢
  go_enter Tryz.func18, Tryz.ntmps18
  go_wp2_with (rw [HW.out])
  refine hF0.mono ?_
  rintro e w2 ⟨rfl, hb2⟩
  have hs2 := HSZ.out
  have hr2 := (hb2.block (w.heap.size + 1) (by omega)).trans HR.out
  have hB2 := hb0.trans (hb2.mono hb0.size)
  have r0 : w2.cell? ⟨w.heap.size + 1, 0, none⟩ = some (.int .i64 0) := Lib.cell_of_heap hr2 0
  have r1 : w2.cell? ⟨w.heap.size + 1, 1, none⟩ = some (.int .i64 0) := Lib.cell_of_heap hr2 1
  have r2 : w2.cell? ⟨w.heap.size + 1, 2, none⟩ = some (.int .i64 0) := Lib.cell_of_heap hr2 2
  have r3 : w2.cell? ⟨w.heap.size + 1, 3, none⟩ = some (.int .i64 0) := Lib.cell_of_heap hr2 3
  have r4 : w2.cell? ⟨w.heap.size + 1, 4, none⟩ = some (.string ⟨#[]⟩) := Lib.cell_of_heap hr2 4
  have r5 : w2.cell? ⟨w.heap.size + 1, 5, none⟩ = some (.slice none 0 0) := Lib.cell_of_heap hr2 5
  have rz := fun j => frozen_of_row w2 (w.heap.size + 1) j _ _ hr2
  have hlt2 : w.heap.size + 1 < w2.heap.size := by have := hb2.size; omega
  clear hr2 hb2 hF0 c0 c1 c2 c3 HW hs2
  unfold ansV
  go_wp2_with fail
  refine bodyPost_ret (v := .agg #[.int .i64 a, .int .i64 b, .int .i64 c, .int .i64 d, .string k, .slice ba bn bc]) (by simp [results, Tryz.results18, go_sem, r0, r1, r2, r3, r4, r5]) rfl ?_
  refine ⟨rfl, ?_⟩
  iterate 6 refine below_set ?_ _ _ (Nat.le_succ _) _
  exact hB2
end Go.Proofs.YtibgiohijknmbaaGreatDoor
