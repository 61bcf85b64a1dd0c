/-
  fetch.Fetch, out of what Parse answers: where no blob and no data are asked for.
-/
import Derived.Test.YtibgiohijknmbaaGreatDoorSort
namespace Go.Proofs.YtibgiohijknmbaaGreatDoor
open Go.RowKit
set_option linter.unusedVariables false
set_option linter.unusedSimpArgs false

/-- Parse answers a URL. -/
def ParseIs (W : World) (p : PSt) (e : Ending) (w' : World) : Prop :=
  ∃ pa pn pc, e = .returned (.tuple #[.agg (PSt.url { p with path := .slice pa pn pc }), .int .i64 0]) ∧ Below W.heap.size W w'
/-- An answer. -/
def ansV (sort status first total : Int) (kind : ByteArray) (body : Value) : Array Value := #[.int .i64 sort, .int .i64 status, .int .i64 first, .int .i64 total, .string kind, body]
def nothingS : ByteArray := ⟨#[116, 101, 120, 116, 47, 104, 116, 109, 108, 59, 99, 104, 97, 114, 115, 101, 116, 61, 117, 116, 102, 45, 56]⟩
def ans0 : Array Value := ansV 0 0 0 0 ⟨#[]⟩ (.slice none 0 0)
def oriV (sch host : ByteArray) (port nonce : Int) : Array Value := #[.string sch, .string host, .int .i64 port, .int .i64 nonce]

set_option maxRecDepth 100000 in
set_option maxHeartbeats 1000000 in
theorem fetch_plain (l : Value) (s : ByteArray) (os oh : ByteArray) (op on : Int) (tp : Option Addr) (p : PSt) (w : World)
    (hP : ∀ W, Below w.heap.size w W → Calls Tryz.prog 26 #[.string s, .pointer none] W (ParseIs W p)) (hsort : sortI p.sch p.opq p.text = 3) :
    Calls Tryz.prog 25 #[l, .string s, .agg (oriV os oh op on), .pointer tp] w fun e w' => e = .returned (.agg (ansV 3 200 0 0 nothingS (.slice none 0 0))) ∧ Below w.heap.size w w' := by
  have hb0 : Below w.heap.size w ((w.alloc (.cells (oriV os oh op on) 23)).alloc (.cells ans0 47)) := ((Below.refl _ _).alloc (Nat.le_refl _) _).alloc (by simp) _
  have hP0 := hP _ hb0
  have hr0 : ((w.alloc (.cells (oriV os oh op on) 23)).alloc (.cells ans0 47)).heap[w.heap.size + 1]? = some (.cells ans0 47 (0, 0)) := by
    have := heap_last (w.alloc (.cells (oriV os oh op on) 23)) (.cells ans0 47)
    rw [show (w.alloc (.cells (oriV os oh op on) 23)).heap.size = w.heap.size + 1 by simp] at this
    exact this
  have ho0 : ((w.alloc (.cells (oriV os oh op on) 23)).alloc (.cells ans0 47)).heap[w.heap.size]? = some (.cells (oriV os oh op on) 23 (0, 0)) := by
    rw [Below.heap_alloc _ _ _ (by simp)]
    exact heap_last _ _
  have hz0 : ((w.alloc (.cells (oriV os oh op on) 23)).alloc (.cells ans0 47)).heap.size = w.heap.size + 2 := by simp
  have HSO := Lib.hid hsort
  clear hP hsort
  have hgen : ∀ W, W = (w.alloc (.cells (oriV os oh op on) 23)).alloc (.cells ans0 47) → W = (w.alloc (.cells #[.string os, .string oh, .int .i64 op, .int .i64 on] 23)).alloc (.cells #[.int .i64 0, .int .i64 0, .int .i64 0, .int .i64 0, .string ⟨#[]⟩, .slice none 0 0] 47) := fun _ h => h
  obtain ⟨W0, hW0⟩ : ∃ W, W = (w.alloc (.cells (oriV os oh op on) 23)).alloc (.cells ans0 47) := ⟨_, rfl⟩
  rw [← hW0] at hP0 hb0 hr0 hz0 ho0
  have hW1 := Lib.hid (hgen _ hW0)
  clear hW0 hgen
  unfold oriV
  go_enter Tryz.func25, Tryz.ntmps25
  go_wp2_with fail
  rw [← hW1.out]
  clear hW1
  refine hP0.mono ?_
  rintro e w1 ⟨pa, pn, pc, rfl, hb1⟩
  have hr1 := (hb1.block _ (by omega)).trans hr0
  have hB1 := hb0.trans (hb1.mono hb0.size)
  have hz1 : w.heap.size + 2 ≤ w1.heap.size := by have := hb1.size; omega
  have HR1 := Lib.hid hr1
  have HO1 := Lib.hid ((hb1.block w.heap.size (by omega)).trans ho0)
  clear hP0 hb0 hr0 hr1 hb1 hz0 ho0
  unfold PSt.url
  simp only
  have hso := fun W => sort_c { p with path := .slice pa pn pc } pa pn pc rfl W
  simp only at hso
  rw [HSO.out] at hso
  unfold PSt.url at hso
  simp only at hso
  go_wp2_with fail
  refine (hso _).mono ?_
  rintro e w2 ⟨rfl, hb2⟩
  have hz2 : w1.heap.size + 1 ≤ w2.heap.size := by have := hb2.size; simp at this; omega
  have hr2 := (hb2.block (w.heap.size + 1) (by simp; omega)).trans ((Below.heap_alloc _ _ _ (by omega)).trans HR1.out)
  have hB2 := (hB1.alloc hB1.size _).trans (hb2.mono (by simp; omega))
  have r0 : w2.cell? ⟨w.heap.size + 1, 0, none⟩ = some (.int .i64 0) := Lib.cell_of_heap hr2 0
  have r1 : w2.cell? ⟨w.heap.size + 1, 1, none⟩ = some (.int .i64 0) := Lib.cell_of_heap hr2 1
  have r2 : w2.cell? ⟨w.heap.size + 1, 2, none⟩ = some (.int .i64 0) := Lib.cell_of_heap hr2 2
  have r3 : w2.cell? ⟨w.heap.size + 1, 3, none⟩ = some (.int .i64 0) := Lib.cell_of_heap hr2 3
  have r4 : w2.cell? ⟨w.heap.size + 1, 4, none⟩ = some (.string ⟨#[]⟩) := Lib.cell_of_heap hr2 4
  have r5 : w2.cell? ⟨w.heap.size + 1, 5, none⟩ = some (.slice none 0 0) := Lib.cell_of_heap hr2 5
  have rz := fun j => frozen_of_row w2 (w.heap.size + 1) j _ _ hr2
  have hlt2 : w.heap.size + 1 < w2.heap.size := by omega
  clear hr2 hb2 hso hB1
  go_wp2
  refine bodyPost_ret (v := .agg #[.int .i64 3, .int .i64 200, .int .i64 0, .int .i64 0, .string nothingS, .slice none 0 0]) (by simp [results, Tryz.results25, go_sem, r0, r1, r2, r3, r4, r5, hlt2, nothingS]) rfl ?_
  refine ⟨rfl, Below.alloc ?_ ?_ _⟩
  · iterate 6 refine below_set ?_ _ _ (Nat.le_succ _) _
    exact hB2
  · simp [World.setCell]; omega
end Go.Proofs.YtibgiohijknmbaaGreatDoor
