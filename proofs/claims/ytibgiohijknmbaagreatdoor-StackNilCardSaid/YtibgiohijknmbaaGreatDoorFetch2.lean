/-
  fetch.Fetch, out of what Parse answers: a blob's URL that means no blob.
-/
import Derived.Test.YtibgiohijknmbaaGreatDoorFetch
namespace Go.Proofs.YtibgiohijknmbaaGreatDoor
open Go.RowKit
set_option linter.unusedVariables false
set_option linter.unusedSimpArgs false

set_option maxRecDepth 100000 in
set_option maxHeartbeats 1000000 in
theorem fetch_nil  (s : ByteArray) (os oh : ByteArray) (op on : Int) (tp : Option Addr) (p : PSt) (w : World)
    (hP : ∀ W, Below w.heap.size w W → Calls Tryz.prog 26 #[.string s, .pointer none] W (ParseIs W p)) (hsort : sortI p.sch p.opq p.text = 1) :
    Calls Tryz.prog 25 #[.nilIface, .string s, .agg (oriV os oh op on), .pointer tp] w fun e w' => e = .returned (.agg (ansV 1 0 0 0 ⟨#[]⟩ (.slice none 0 0))) ∧ Below w.heap.size w w' := by
  have hb0 : Below w.heap.size w ((w.alloc (.cells (oriV os oh op on) 23)).alloc (.cells ans0 47)) := ((Below.refl _ _).alloc (Nat.le_refl _) _).alloc (by simp) _
  have hP0 := hP _ hb0
  have hr0 : ((w.alloc (.cells (oriV os oh op on) 23)).alloc (.cells ans0 47)).heap[w.heap.size + 1]? = some (.cells ans0 47 (0, 0)) := by
    have := heap_last (w.alloc (.cells (oriV os oh op on) 23)) (.cells ans0 47)
    rw [show (w.alloc (.cells (oriV os oh op on) 23)).heap.size = w.heap.size + 1 by simp] at this
    exact this
  have ho0 : ((w.alloc (.cells (oriV os oh op on) 23)).alloc (.cells ans0 47)).heap[w.heap.size]? = some (.cells (oriV os oh op on) 23 (0, 0)) := by
    rw [Below.heap_alloc _ _ _ (by simp)]
    exact heap_last _ _
  have hz0 : ((w.alloc (.cells (oriV os oh op on) 23)).alloc (.cells ans0 47)).heap.size = w.heap.size + 2 := by simp
  have HSO := Lib.hid hsort
  clear hP hsort
  have hgen : ∀ W, W = (w.alloc (.cells (oriV os oh op on) 23)).alloc (.cells ans0 47) → W = (w.alloc (.cells #[.string os, .string oh, .int .i64 op, .int .i64 on] 23)).alloc (.cells #[.int .i64 0, .int .i64 0, .int .i64 0, .int .i64 0, .string ⟨#[]⟩, .slice none 0 0] 47) := fun _ h => h
  obtain ⟨W0, hW0⟩ : ∃ W, W = (w.alloc (.cells (oriV os oh op on) 23)).alloc (.cells ans0 47) := ⟨_, rfl⟩
  rw [← hW0] at hP0 hb0 hr0 hz0 ho0
  have hW1 := Lib.hid (hgen _ hW0)
  clear hW0 hgen
  unfold oriV
  go_enter Tryz.func25, Tryz.ntmps25
  go_wp2_with fail
  rw [← hW1.out]
  clear hW1
  refine hP0.mono ?_
  rintro e w1 ⟨pa, pn, pc, rfl, hb1⟩
  have hr1 := (hb1.block _ (by omega)).trans hr0
  have hB1 := hb0.trans (hb1.mono hb0.size)
  have hz1 : w.heap.size + 2 ≤ w1.heap.size := by have := hb1.size; omega
  have HR1 := Lib.hid hr1
  have HO1 := Lib.hid ((hb1.block w.heap.size (by omega)).trans ho0)
  clear hP0 hb0 hr0 hr1 hb1 hz0 ho0
  unfold PSt.url
  simp only
  have hso := fun W => sort_c { p with path := .slice pa pn pc } pa pn pc rfl W
  simp only at hso
  rw [HSO.out] at hso
  unfold PSt.url at hso
  simp only at hso
  go_wp2_with fail
  refine (hso _).mono ?_
  rintro e w2 ⟨rfl, hb2⟩
  have hz2 : w1.heap.size + 1 ≤ w2.heap.size := by have := hb2.size; simp at this; omega
  have hr2 := (hb2.block (w.heap.size + 1) (by simp; omega)).trans ((Below.heap_alloc _ _ _ (by omega)).trans HR1.out)
  have hB2 := (hB1.alloc hB1.size _).trans (hb2.mono (by simp; omega))
  have r0 : w2.cell? ⟨w.heap.size + 1, 0, none⟩ = some (.int .i64 0) := Lib.cell_of_heap hr2 0
  have r1 : w2.cell? ⟨w.heap.size + 1, 1, none⟩ = some (.int .i64 0) := Lib.cell_of_heap hr2 1
  have r2 : w2.cell? ⟨w.heap.size + 1, 2, none⟩ = some (.int .i64 0) := Lib.cell_of_heap hr2 2
  have r3 : w2.cell? ⟨w.heap.size + 1, 3, none⟩ = some (.int .i64 0) := Lib.cell_of_heap hr2 3
  have r4 : w2.cell? ⟨w.heap.size + 1, 4, none⟩ = some (.string ⟨#[]⟩) := Lib.cell_of_heap hr2 4
  have r5 : w2.cell? ⟨w.heap.size + 1, 5, none⟩ = some (.slice none 0 0) := Lib.cell_of_heap hr2 5
  have rz := fun j => frozen_of_row w2 (w.heap.size + 1) j _ _ hr2
  have hlt2 : w.heap.size + 1 < w2.heap.size := by omega
  clear hr2 hb2 hso hB1
  go_wp2
  refine bodyPost_ret (v := .agg #[.int .i64 1, .int .i64 0, .int .i64 0, .int .i64 0, .string ⟨#[]⟩, .slice none 0 0]) (by simp [results, Tryz.results25, go_sem, r0, r1, r2, r3, r4, r5, hlt2]) rfl ?_
  refine ⟨rfl, Below.alloc ?_ ?_ _⟩
  · iterate 6 refine below_set ?_ _ _ (Nat.le_succ _) _
    exact hB2
  · simp [World.setCell]; omega

set_option maxRecDepth 100000 in
set_option maxHeartbeats 1000000 in
theorem fetch_noblob (sp : Option Addr) (s : ByteArray) (os oh : ByteArray) (op on : Int) (tp : Option Addr) (p : PSt) (w : World)
    (hP : ∀ W, Below w.heap.size w W → Calls Tryz.prog 26 #[.string s, .pointer none] W (ParseIs W p)) (hsort : sortI p.sch p.opq p.text = 1) (hme : ∀ W, (method 529 25 (.pointer sp) "Blob").run Tryz.prog W = .ok (13, .pointer sp) W)
    (hB : ∀ W pa pn pc, Below w.heap.size w W → Calls Tryz.prog 13 #[.pointer sp, .agg (PSt.url { p with path := .slice pa pn pc }), .agg (oriV os oh op on)] W fun e w' => ∃ bp, e = .returned (.tuple #[.pointer bp, .bool false]) ∧ Below W.heap.size W w') :
    Calls Tryz.prog 25 #[.iface 25 (.pointer sp), .string s, .agg (oriV os oh op on), .pointer tp] w fun e w' => e = .returned (.agg (ansV 1 0 0 0 ⟨#[]⟩ (.slice none 0 0))) ∧ Below w.heap.size w w' := by
  have hb0 : Below w.heap.size w ((w.alloc (.cells (oriV os oh op on) 23)).alloc (.cells ans0 47)) := ((Below.refl _ _).alloc (Nat.le_refl _) _).alloc (by simp) _
  have hP0 := hP _ hb0
  have hr0 : ((w.alloc (.cells (oriV os oh op on) 23)).alloc (.cells ans0 47)).heap[w.heap.size + 1]? = some (.cells ans0 47 (0, 0)) := by
    have := heap_last (w.alloc (.cells (oriV os oh op on) 23)) (.cells ans0 47)
    rw [show (w.alloc (.cells (oriV os oh op on) 23)).heap.size = w.heap.size + 1 by simp] at this
    exact this
  have ho0 : ((w.alloc (.cells (oriV os oh op on) 23)).alloc (.cells ans0 47)).heap[w.heap.size]? = some (.cells (oriV os oh op on) 23 (0, 0)) := by
    rw [Below.heap_alloc _ _ _ (by simp)]
    exact heap_last _ _
  have hz0 : ((w.alloc (.cells (oriV os oh op on) 23)).alloc (.cells ans0 47)).heap.size = w.heap.size + 2 := by simp
  have HSO := Lib.hid hsort
  clear hP hsort
  have hgen : ∀ W, W = (w.alloc (.cells (oriV os oh op on) 23)).alloc (.cells ans0 47) → W = (w.alloc (.cells #[.string os, .string oh, .int .i64 op, .int .i64 on] 23)).alloc (.cells #[.int .i64 0, .int .i64 0, .int .i64 0, .int .i64 0, .string ⟨#[]⟩, .slice none 0 0] 47) := fun _ h => h
  obtain ⟨W0, hW0⟩ : ∃ W, W = (w.alloc (.cells (oriV os oh op on) 23)).alloc (.cells ans0 47) := ⟨_, rfl⟩
  rw [← hW0] at hP0 hb0 hr0 hz0 ho0
  have hW1 := Lib.hid (hgen _ hW0)
  clear hW0 hgen
  unfold oriV
  go_enter Tryz.func25, Tryz.ntmps25
  go_wp2_with fail
  rw [← hW1.out]
  clear hW1
  refine hP0.mono ?_
  rintro e w1 ⟨pa, pn, pc, rfl, hb1⟩
  have hr1 := (hb1.block _ (by omega)).trans hr0
  have hB1 := hb0.trans (hb1.mono hb0.size)
  have hz1 : w.heap.size + 2 ≤ w1.heap.size := by have := hb1.size; omega
  have HR1 := Lib.hid hr1
  have HO1 := Lib.hid ((hb1.block w.heap.size (by omega)).trans ho0)
  clear hP0 hb0 hr0 hr1 hb1 hz0 ho0
  unfold PSt.url
  simp only
  have hso := fun W => sort_c { p with path := .slice pa pn pc } pa pn pc rfl W
  simp only at hso
  rw [HSO.out] at hso
  unfold PSt.url at hso
  simp only at hso
  go_wp2_with fail
  refine (hso _).mono ?_
  rintro e w2 ⟨rfl, hb2⟩
  have hz2 : w1.heap.size + 1 ≤ w2.heap.size := by have := hb2.size; simp at this; omega
  have hr2 := (hb2.block (w.heap.size + 1) (by simp; omega)).trans ((Below.heap_alloc _ _ _ (by omega)).trans HR1.out)
  have hB2 := (hB1.alloc hB1.size _).trans (hb2.mono (by simp; omega))
  have HR2 := Lib.hid hr2
  have hlt2 : w.heap.size + 1 < w2.heap.size := by omega
  have hu2 := (hb2.block w1.heap.size (by simp)).trans (heap_last w1 _)
  have ho2 := (hb2.block w.heap.size (by simp; omega)).trans ((Below.heap_alloc _ _ _ (by omega)).trans HO1.out)
  have u0 : w2.cell? ⟨w1.heap.size, 0, none⟩ = some (.string p.sch) := Lib.cell_of_heap hu2 0
  have u1 : w2.cell? ⟨w1.heap.size, 1, none⟩ = some (.string p.user) := Lib.cell_of_heap hu2 1
  have u2 : w2.cell? ⟨w1.heap.size, 2, none⟩ = some (.string p.pass) := Lib.cell_of_heap hu2 2
  have u3 : w2.cell? ⟨w1.heap.size, 3, none⟩ = some (.string p.host) := Lib.cell_of_heap hu2 3
  have u4 : w2.cell? ⟨w1.heap.size, 4, none⟩ = some (.bool p.hasHost) := Lib.cell_of_heap hu2 4
  have u5 : w2.cell? ⟨w1.heap.size, 5, none⟩ = some (.int .i64 p.port) := Lib.cell_of_heap hu2 5
  have u6 : w2.cell? ⟨w1.heap.size, 6, none⟩ = some (.bool p.opq) := Lib.cell_of_heap hu2 6
  have u7 : w2.cell? ⟨w1.heap.size, 7, none⟩ = some (.string p.text) := Lib.cell_of_heap hu2 7
  have u8 : w2.cell? ⟨w1.heap.size, 8, none⟩ = some (.slice pa pn pc) := Lib.cell_of_heap hu2 8
  have u9 : w2.cell? ⟨w1.heap.size, 9, none⟩ = some (.bool p.hasQ) := Lib.cell_of_heap hu2 9
  have u10 : w2.cell? ⟨w1.heap.size, 10, none⟩ = some (.bool p.hasF) := Lib.cell_of_heap hu2 10
  have u11 : w2.cell? ⟨w1.heap.size, 11, none⟩ = some (.string p.query) := Lib.cell_of_heap hu2 11
  have u12 : w2.cell? ⟨w1.heap.size, 12, none⟩ = some (.string p.frag) := Lib.cell_of_heap hu2 12
  have o0 : w2.cell? ⟨w.heap.size, 0, none⟩ = some (.string os) := Lib.cell_of_heap ho2 0
  have o1 : w2.cell? ⟨w.heap.size, 1, none⟩ = some (.string oh) := Lib.cell_of_heap ho2 1
  have o2 : w2.cell? ⟨w.heap.size, 2, none⟩ = some (.int .i64 op) := Lib.cell_of_heap ho2 2
  have o3 : w2.cell? ⟨w.heap.size, 3, none⟩ = some (.int .i64 on) := Lib.cell_of_heap ho2 3
  have hl1 : w1.heap.size < w2.heap.size := by omega
  have hl0 : w.heap.size < w2.heap.size := by omega
  clear hb2 hso hB1 hu2 ho2 hr2
  have hBB := Lib.hid hB
  clear hB
  have hne : ∀ W, (binOp .eql 108 (.iface 25 (.pointer sp)) .nilIface).run Tryz.prog W = .ok (.bool false) W := fun W => by rfl
  go_wp2_with fail
  refine (hBB.out _ pa pn pc (hB2.alloc hB2.size _)).mono ?_
  rintro e w3 ⟨bp, rfl, hb3⟩
  have ha3 := (hb3.block w2.heap.size (by simp)).trans (heap_last w2 _)
  have hr3 := (hb3.block (w.heap.size + 1) (by simp; omega)).trans ((Below.heap_alloc _ _ _ (by omega)).trans HR2.out)
  have hB3 := (hB2.alloc hB2.size _).trans (hb3.mono (by simp; omega))
  have hz3 : w2.heap.size + 1 ≤ w3.heap.size := by have := hb3.size; simp at this; omega
  have a0 : w3.cell? ⟨w2.heap.size, 0, none⟩ = some (.int .i64 1) := Lib.cell_of_heap ha3 0
  have a1 : w3.cell? ⟨w2.heap.size, 1, none⟩ = some (.int .i64 0) := Lib.cell_of_heap ha3 1
  have a2 : w3.cell? ⟨w2.heap.size, 2, none⟩ = some (.int .i64 0) := Lib.cell_of_heap ha3 2
  have a3 : w3.cell? ⟨w2.heap.size, 3, none⟩ = some (.int .i64 0) := Lib.cell_of_heap ha3 3
  have a4 : w3.cell? ⟨w2.heap.size, 4, none⟩ = some (.string ⟨#[]⟩) := Lib.cell_of_heap ha3 4
  have a5 : w3.cell? ⟨w2.heap.size, 5, none⟩ = some (.slice none 0 0) := Lib.cell_of_heap ha3 5
  have r0 : w3.cell? ⟨w.heap.size + 1, 0, none⟩ = some (.int .i64 0) := Lib.cell_of_heap hr3 0
  have r1 : w3.cell? ⟨w.heap.size + 1, 1, none⟩ = some (.int .i64 0) := Lib.cell_of_heap hr3 1
  have r2 : w3.cell? ⟨w.heap.size + 1, 2, none⟩ = some (.int .i64 0) := Lib.cell_of_heap hr3 2
  have r3 : w3.cell? ⟨w.heap.size + 1, 3, none⟩ = some (.int .i64 0) := Lib.cell_of_heap hr3 3
  have r4 : w3.cell? ⟨w.heap.size + 1, 4, none⟩ = some (.string ⟨#[]⟩) := Lib.cell_of_heap hr3 4
  have r5 : w3.cell? ⟨w.heap.size + 1, 5, none⟩ = some (.slice none 0 0) := Lib.cell_of_heap hr3 5
  have rz := fun j => frozen_of_row w3 (w.heap.size + 1) j _ _ hr3
  have hlt3 : w.heap.size + 1 < w3.heap.size := by omega
  clear ha3 hr3 hb3 hne hme
  go_wp2
  refine bodyPost_ret (v := .agg #[.int .i64 1, .int .i64 0, .int .i64 0, .int .i64 0, .string ⟨#[]⟩, .slice none 0 0]) (by simp [results, Tryz.results25, go_sem, r0, r1, r2, r3, r4, r5, hlt3]) rfl ?_
  refine ⟨rfl, ?_⟩
  iterate 6 refine below_set ?_ _ _ (Nat.le_succ _) _
  exact hB3

end Go.Proofs.YtibgiohijknmbaaGreatDoor
