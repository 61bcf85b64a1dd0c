/-
  Joined texts: Fetch2, Nil, SFetch, NilF, LawNil.
-/
import Derived.Test.YtibgiohijknmbaaGreatDoorM14
import Derived.Test.YtibgiohijknmbaaGreatDoorM12
/-
  fetch.Fetch, out of what Parse answers: a blob's URL that means no blob.
-/
namespace Go.Proofs.YtibgiohijknmbaaGreatDoor
open Go.RowKit
set_option linter.unusedVariables false
set_option linter.unusedSimpArgs false

set_option maxRecDepth 100000 in
set_option maxHeartbeats 1000000 in
theorem fetch_nil  (s : ByteArray) (os oh : ByteArray) (op on : Int) (tp : Option Addr) (p : PSt) (w : World)
    (hP : ∀ W, Below w.heap.size w W → Calls Tryz.prog 26 #[.string s, .pointer none] W (ParseIs W p)) (hsort : sortI p.sch p.opq p.text = 1) :
    Calls Tryz.prog 25 #[.nilIface, .string s, .agg (oriV os oh op on), .pointer tp] w fun e w' => e = .returned (.agg (ansV 1 0 0 0 ⟨#[]⟩ (.slice none 0 0))) ∧ Below w.heap.size w w' := by
  have hb0 : Below w.heap.size w ((w.alloc (.cells (oriV os oh op on) 23)).alloc (.cells ans0 47)) := ((Below.refl _ _).alloc (Nat.le_refl _) _).alloc (by simp) _
  have hP0 := hP _ hb0
  have hr0 : ((w.alloc (.cells (oriV os oh op on) 23)).alloc (.cells ans0 47)).heap[w.heap.size + 1]? = some (.cells ans0 47 (0, 0)) := by
    have := heap_last (w.alloc (.cells (oriV os oh op on) 23)) (.cells ans0 47)
    rw [show (w.alloc (.cells (oriV os oh op on) 23)).heap.size = w.heap.size + 1 by simp] at this
    exact this
  have ho0 : ((w.alloc (.cells (oriV os oh op on) 23)).alloc (.cells ans0 47)).heap[w.heap.size]? = some (.cells (oriV os oh op on) 23 (0, 0)) := by
    rw [Below.heap_alloc _ _ _ (by simp)]
    exact heap_last _ _
  have hz0 : ((w.alloc (.cells (oriV os oh op on) 23)).alloc (.cells ans0 47)).heap.size = w.heap.size + 2 := by simp
  have HSO := Lib.hid hsort
  clear hP hsort
  have hgen : ∀ W, W = (w.alloc (.cells (oriV os oh op on) 23)).alloc (.cells ans0 47) → W = (w.alloc (.cells #[.string os, .string oh, .int .i64 op, .int .i64 on] 23)).alloc (.cells #[.int .i64 0, .int .i64 0, .int .i64 0, .int .i64 0, .string ⟨#[]⟩, .slice none 0 0] 47) := fun _ h => h
  obtain ⟨W0, hW0⟩ : ∃ W, W = (w.alloc (.cells (oriV os oh op on) 23)).alloc (.cells ans0 47) := ⟨_, rfl⟩
  rw [← hW0] at hP0 hb0 hr0 hz0 ho0
  have hW1 := Lib.hid (hgen _ hW0)
  clear hW0 hgen
  unfold oriV
  go_enter Tryz.func25, Tryz.ntmps25
  go_wp2_with fail
  rw [← hW1.out]
  clear hW1
  refine hP0.mono ?_
  rintro e w1 ⟨pa, pn, pc, rfl, hb1⟩
  have hr1 := (hb1.block _ (by omega)).trans hr0
  have hB1 := hb0.trans (hb1.mono hb0.size)
  have hz1 : w.heap.size + 2 ≤ w1.heap.size := by have := hb1.size; omega
  have HR1 := Lib.hid hr1
  have HO1 := Lib.hid ((hb1.block w.heap.size (by omega)).trans ho0)
  clear hP0 hb0 hr0 hr1 hb1 hz0 ho0
  unfold PSt.url
  simp only
  have hso := fun W => sort_c { p with path := .slice pa pn pc } pa pn pc rfl W
  simp only at hso
  rw [HSO.out] at hso
  unfold PSt.url at hso
  simp only at hso
  go_wp2_with fail
  refine (hso _).mono ?_
  rintro e w2 ⟨rfl, hb2⟩
  have hz2 : w1.heap.size + 1 ≤ w2.heap.size := by have := hb2.size; simp at this; omega
  have hr2 := (hb2.block (w.heap.size + 1) (by simp; omega)).trans ((Below.heap_alloc _ _ _ (by omega)).trans HR1.out)
  have hB2 := (hB1.alloc hB1.size _).trans (hb2.mono (by simp; omega))
  have r0 : w2.cell? ⟨w.heap.size + 1, 0, none⟩ = some (.int .i64 0) := Lib.cell_of_heap hr2 0
  have r1 : w2.cell? ⟨w.heap.size + 1, 1, none⟩ = some (.int .i64 0) := Lib.cell_of_heap hr2 1
  have r2 : w2.cell? ⟨w.heap.size + 1, 2, none⟩ = some (.int .i64 0) := Lib.cell_of_heap hr2 2
  have r3 : w2.cell? ⟨w.heap.size + 1, 3, none⟩ = some (.int .i64 0) := Lib.cell_of_heap hr2 3
  have r4 : w2.cell? ⟨w.heap.size + 1, 4, none⟩ = some (.string ⟨#[]⟩) := Lib.cell_of_heap hr2 4
  have r5 : w2.cell? ⟨w.heap.size + 1, 5, none⟩ = some (.slice none 0 0) := Lib.cell_of_heap hr2 5
  have rz := fun j => frozen_of_row w2 (w.heap.size + 1) j _ _ hr2
  have hlt2 : w.heap.size + 1 < w2.heap.size := by omega
  clear hr2 hb2 hso hB1
  go_wp2
  refine bodyPost_ret (v := .agg #[.int .i64 1, .int .i64 0, .int .i64 0, .int .i64 0, .string ⟨#[]⟩, .slice none 0 0]) (by simp [results, Tryz.results25, go_sem, r0, r1, r2, r3, r4, r5, hlt2]) rfl ?_
  refine ⟨rfl, Below.alloc ?_ ?_ _⟩
  · iterate 6 refine below_set ?_ _ _ (Nat.le_succ _) _
    exact hB2
  · simp [World.setCell]; omega

set_option maxRecDepth 100000 in
set_option maxHeartbeats 1000000 in
theorem fetch_noblob (sp : Option Addr) (s : ByteArray) (os oh : ByteArray) (op on : Int) (tp : Option Addr) (p : PSt) (w : World)
    (hP : ∀ W, Below w.heap.size w W → Calls Tryz.prog 26 #[.string s, .pointer none] W (ParseIs W p)) (hsort : sortI p.sch p.opq p.text = 1) (hme : ∀ W, (method 529 25 (.pointer sp) "Blob").run Tryz.prog W = .ok (13, .pointer sp) W)
    (hB : ∀ W pa pn pc, Below w.heap.size w W → Calls Tryz.prog 13 #[.pointer sp, .agg (PSt.url { p with path := .slice pa pn pc }), .agg (oriV os oh op on)] W fun e w' => ∃ bp, e = .returned (.tuple #[.pointer bp, .bool false]) ∧ Below W.heap.size W w') :
    Calls Tryz.prog 25 #[.iface 25 (.pointer sp), .string s, .agg (oriV os oh op on), .pointer tp] w fun e w' => e = .returned (.agg (ansV 1 0 0 0 ⟨#[]⟩ (.slice none 0 0))) ∧ Below w.heap.size w w' := by
  have hb0 : Below w.heap.size w ((w.alloc (.cells (oriV os oh op on) 23)).alloc (.cells ans0 47)) := ((Below.refl _ _).alloc (Nat.le_refl _) _).alloc (by simp) _
  have hP0 := hP _ hb0
  have hr0 : ((w.alloc (.cells (oriV os oh op on) 23)).alloc (.cells ans0 47)).heap[w.heap.size + 1]? = some (.cells ans0 47 (0, 0)) := by
    have := heap_last (w.alloc (.cells (oriV os oh op on) 23)) (.cells ans0 47)
    rw [show (w.alloc (.cells (oriV os oh op on) 23)).heap.size = w.heap.size + 1 by simp] at this
    exact this
  have ho0 : ((w.alloc (.cells (oriV os oh op on) 23)).alloc (.cells ans0 47)).heap[w.heap.size]? = some (.cells (oriV os oh op on) 23 (0, 0)) := by
    rw [Below.heap_alloc _ _ _ (by simp)]
    exact heap_last _ _
  have hz0 : ((w.alloc (.cells (oriV os oh op on) 23)).alloc (.cells ans0 47)).heap.size = w.heap.size + 2 := by simp
  have HSO := Lib.hid hsort
  clear hP hsort
  have hgen : ∀ W, W = (w.alloc (.cells (oriV os oh op on) 23)).alloc (.cells ans0 47) → W = (w.alloc (.cells #[.string os, .string oh, .int .i64 op, .int .i64 on] 23)).alloc (.cells #[.int .i64 0, .int .i64 0, .int .i64 0, .int .i64 0, .string ⟨#[]⟩, .slice none 0 0] 47) := fun _ h => h
  obtain ⟨W0, hW0⟩ : ∃ W, W = (w.alloc (.cells (oriV os oh op on) 23)).alloc (.cells ans0 47) := ⟨_, rfl⟩
  rw [← hW0] at hP0 hb0 hr0 hz0 ho0
  have hW1 := Lib.hid (hgen _ hW0)
  clear hW0 hgen
  unfold oriV
  go_enter Tryz.func25, Tryz.ntmps25
  go_wp2_with fail
  rw [← hW1.out]
  clear hW1
  refine hP0.mono ?_
  rintro e w1 ⟨pa, pn, pc, rfl, hb1⟩
  have hr1 := (hb1.block _ (by omega)).trans hr0
  have hB1 := hb0.trans (hb1.mono hb0.size)
  have hz1 : w.heap.size + 2 ≤ w1.heap.size := by have := hb1.size; omega
  have HR1 := Lib.hid hr1
  have HO1 := Lib.hid ((hb1.block w.heap.size (by omega)).trans ho0)
  clear hP0 hb0 hr0 hr1 hb1 hz0 ho0
  unfold PSt.url
  simp only
  have hso := fun W => sort_c { p with path := .slice pa pn pc } pa pn pc rfl W
  simp only at hso
  rw [HSO.out] at hso
  unfold PSt.url at hso
  simp only at hso
  go_wp2_with fail
  refine (hso _).mono ?_
  rintro e w2 ⟨rfl, hb2⟩
  have hz2 : w1.heap.size + 1 ≤ w2.heap.size := by have := hb2.size; simp at this; omega
  have hr2 := (hb2.block (w.heap.size + 1) (by simp; omega)).trans ((Below.heap_alloc _ _ _ (by omega)).trans HR1.out)
  have hB2 := (hB1.alloc hB1.size _).trans (hb2.mono (by simp; omega))
  have HR2 := Lib.hid hr2
  have hlt2 : w.heap.size + 1 < w2.heap.size := by omega
  have hu2 := (hb2.block w1.heap.size (by simp)).trans (heap_last w1 _)
  have ho2 := (hb2.block w.heap.size (by simp; omega)).trans ((Below.heap_alloc _ _ _ (by omega)).trans HO1.out)
  have u0 : w2.cell? ⟨w1.heap.size, 0, none⟩ = some (.string p.sch) := Lib.cell_of_heap hu2 0
  have u1 : w2.cell? ⟨w1.heap.size, 1, none⟩ = some (.string p.user) := Lib.cell_of_heap hu2 1
  have u2 : w2.cell? ⟨w1.heap.size, 2, none⟩ = some (.string p.pass) := Lib.cell_of_heap hu2 2
  have u3 : w2.cell? ⟨w1.heap.size, 3, none⟩ = some (.string p.host) := Lib.cell_of_heap hu2 3
  have u4 : w2.cell? ⟨w1.heap.size, 4, none⟩ = some (.bool p.hasHost) := Lib.cell_of_heap hu2 4
  have u5 : w2.cell? ⟨w1.heap.size, 5, none⟩ = some (.int .i64 p.port) := Lib.cell_of_heap hu2 5
  have u6 : w2.cell? ⟨w1.heap.size, 6, none⟩ = some (.bool p.opq) := Lib.cell_of_heap hu2 6
  have u7 : w2.cell? ⟨w1.heap.size, 7, none⟩ = some (.string p.text) := Lib.cell_of_heap hu2 7
  have u8 : w2.cell? ⟨w1.heap.size, 8, none⟩ = some (.slice pa pn pc) := Lib.cell_of_heap hu2 8
  have u9 : w2.cell? ⟨w1.heap.size, 9, none⟩ = some (.bool p.hasQ) := Lib.cell_of_heap hu2 9
  have u10 : w2.cell? ⟨w1.heap.size, 10, none⟩ = some (.bool p.hasF) := Lib.cell_of_heap hu2 10
  have u11 : w2.cell? ⟨w1.heap.size, 11, none⟩ = some (.string p.query) := Lib.cell_of_heap hu2 11
  have u12 : w2.cell? ⟨w1.heap.size, 12, none⟩ = some (.string p.frag) := Lib.cell_of_heap hu2 12
  have o0 : w2.cell? ⟨w.heap.size, 0, none⟩ = some (.string os) := Lib.cell_of_heap ho2 0
  have o1 : w2.cell? ⟨w.heap.size, 1, none⟩ = some (.string oh) := Lib.cell_of_heap ho2 1
  have o2 : w2.cell? ⟨w.heap.size, 2, none⟩ = some (.int .i64 op) := Lib.cell_of_heap ho2 2
  have o3 : w2.cell? ⟨w.heap.size, 3, none⟩ = some (.int .i64 on) := Lib.cell_of_heap ho2 3
  have hl1 : w1.heap.size < w2.heap.size := by omega
  have hl0 : w.heap.size < w2.heap.size := by omega
  clear hb2 hso hB1 hu2 ho2 hr2
  have hBB := Lib.hid hB
  clear hB
  have hne : ∀ W, (binOp .eql 108 (.iface 25 (.pointer sp)) .nilIface).run Tryz.prog W = .ok (.bool false) W := fun W => by rfl
  go_wp2_with fail
  refine (hBB.out _ pa pn pc (hB2.alloc hB2.size _)).mono ?_
  rintro e w3 ⟨bp, rfl, hb3⟩
  have ha3 := (hb3.block w2.heap.size (by simp)).trans (heap_last w2 _)
  have hr3 := (hb3.block (w.heap.size + 1) (by simp; omega)).trans ((Below.heap_alloc _ _ _ (by omega)).trans HR2.out)
  have hB3 := (hB2.alloc hB2.size _).trans (hb3.mono (by simp; omega))
  have hz3 : w2.heap.size + 1 ≤ w3.heap.size := by have := hb3.size; simp at this; omega
  have a0 : w3.cell? ⟨w2.heap.size, 0, none⟩ = some (.int .i64 1) := Lib.cell_of_heap ha3 0
  have a1 : w3.cell? ⟨w2.heap.size, 1, none⟩ = some (.int .i64 0) := Lib.cell_of_heap ha3 1
  have a2 : w3.cell? ⟨w2.heap.size, 2, none⟩ = some (.int .i64 0) := Lib.cell_of_heap ha3 2
  have a3 : w3.cell? ⟨w2.heap.size, 3, none⟩ = some (.int .i64 0) := Lib.cell_of_heap ha3 3
  have a4 : w3.cell? ⟨w2.heap.size, 4, none⟩ = some (.string ⟨#[]⟩) := Lib.cell_of_heap ha3 4
  have a5 : w3.cell? ⟨w2.heap.size, 5, none⟩ = some (.slice none 0 0) := Lib.cell_of_heap ha3 5
  have r0 : w3.cell? ⟨w.heap.size + 1, 0, none⟩ = some (.int .i64 0) := Lib.cell_of_heap hr3 0
  have r1 : w3.cell? ⟨w.heap.size + 1, 1, none⟩ = some (.int .i64 0) := Lib.cell_of_heap hr3 1
  have r2 : w3.cell? ⟨w.heap.size + 1, 2, none⟩ = some (.int .i64 0) := Lib.cell_of_heap hr3 2
  have r3 : w3.cell? ⟨w.heap.size + 1, 3, none⟩ = some (.int .i64 0) := Lib.cell_of_heap hr3 3
  have r4 : w3.cell? ⟨w.heap.size + 1, 4, none⟩ = some (.string ⟨#[]⟩) := Lib.cell_of_heap hr3 4
  have r5 : w3.cell? ⟨w.heap.size + 1, 5, none⟩ = some (.slice none 0 0) := Lib.cell_of_heap hr3 5
  have rz := fun j => frozen_of_row w3 (w.heap.size + 1) j _ _ hr3
  have hlt3 : w.heap.size + 1 < w3.heap.size := by omega
  clear ha3 hr3 hb3 hne hme
  go_wp2
  refine bodyPost_ret (v := .agg #[.int .i64 1, .int .i64 0, .int .i64 0, .int .i64 0, .string ⟨#[]⟩, .slice none 0 0]) (by simp [results, Tryz.results25, go_sem, r0, r1, r2, r3, r4, r5, hlt3]) rfl ?_
  refine ⟨rfl, ?_⟩
  iterate 6 refine below_set ?_ _ _ (Nat.le_succ _) _
  exact hB3

end Go.Proofs.YtibgiohijknmbaaGreatDoor

/-
  A nil stack: its methods.
-/
namespace Go.Proofs.YtibgiohijknmbaaGreatDoor
open Go.RowKit
set_option linter.unusedVariables false
set_option linter.unusedSimpArgs false

theorem create_nil (v : Value) (q : ByteArray) (w : World) :
    Calls Tryz.prog 9 #[.pointer none, v, .string q] w fun e w' => e = .returned (.tuple #[.int .i64 0, .int .i64 1]) ∧ Below w.heap.size w w' := by
  go_enter Tryz.func9, Tryz.ntmps9
  go_wp2_with fail
  go_ret2
  exact ⟨rfl, Below.refl _ _⟩
theorem slice_nil (h : Int) (a b : Option Addr) (q : ByteArray) (w : World) :
    Calls Tryz.prog 10 #[.pointer none, .int .i64 h, .pointer a, .pointer b, .string q] w fun e w' => e = .returned (.tuple #[.int .i64 0, .int .i64 1]) ∧ Below w.heap.size w w' := by
  go_enter Tryz.func10, Tryz.ntmps10
  go_wp2_with fail
  go_ret2
  exact ⟨rfl, Below.refl _ _⟩
theorem register_nil (os oh : ByteArray) (op on h : Int) (w : World) (r : Array Value) :
    Calls Tryz.prog 11 #[.pointer none, .agg (oriV os oh op on), .int .i64 h, .agg r] w fun e w' => e = .returned (.tuple #[.string ⟨#[]⟩, .int .i64 1]) ∧ Below w.heap.size w w' := by
  unfold oriV
  go_enter Tryz.func11, Tryz.ntmps11
  go_wp2_with fail
  go_ret2
  exact ⟨rfl, ((Below.refl _ _).alloc (Nat.le_refl _) _).alloc (by simp) _⟩
theorem notice_nil (w : World) :
    Calls Tryz.prog 12 #[.pointer none] w fun e w' => e = .returned (.tuple #[.string ⟨#[]⟩, .bool false]) ∧ Below w.heap.size w w' := by
  go_enter Tryz.func12, Tryz.ntmps12
  go_wp2_with fail
  go_ret2
  exact ⟨rfl, Below.refl _ _⟩
theorem blob_nil (a b c d : ByteArray) (hh : Bool) (po : Int) (oq : Bool) (t : ByteArray) (pa : Option Addr) (pn pc : Nat) (hq hf : Bool) (qu fr : ByteArray) (os oh : ByteArray) (op on : Int) (w : World) :
    Calls Tryz.prog 13 #[.pointer none, .agg #[.string a, .string b, .string c, .string d, .bool hh, .int .i64 po, .bool oq, .string t, .slice pa pn pc, .bool hq, .bool hf, .string qu, .string fr], .agg (oriV os oh op on)] w
      fun e w' => e = .returned (.tuple #[.pointer none, .bool false]) ∧ Below w.heap.size w w' := by
  unfold oriV
  go_enter Tryz.func13, Tryz.ntmps13
  go_wp2_with fail
  go_ret2
  exact ⟨rfl, ((Below.refl _ _).alloc (Nat.le_refl _) _).alloc (by simp) _⟩
theorem forget_nil (h : Int) (w : World) :
    Calls Tryz.prog 14 #[.pointer none, .int .i64 h] w fun e w' => e = .returned (.bool false) ∧ Below w.heap.size w w' := by
  go_enter Tryz.func14, Tryz.ntmps14
  go_wp2_with fail
  go_ret
  exact ⟨rfl, Below.refl _ _⟩
theorem revoke_nil (s os oh : ByteArray) (op on : Int) (w : World) :
    Calls Tryz.prog 15 #[.pointer none, .string s, .agg (oriV os oh op on)] w fun e w' => e = .returned (.bool false) ∧ Below w.heap.size w w' := by
  unfold oriV
  go_enter Tryz.func15, Tryz.ntmps15
  go_wp2_with fail
  go_ret
  exact ⟨rfl, (Below.refl _ _).alloc (Nat.le_refl _) _⟩
theorem bytes_nil (w : World) :
    Calls Tryz.prog 16 #[.pointer none] w fun e w' => e = .returned (.int .i64 0) ∧ Below w.heap.size w w' := by
  go_enter Tryz.func16, Tryz.ntmps16
  go_wp2_with fail
  go_ret
  exact ⟨rfl, Below.refl _ _⟩
theorem urls_nil (w : World) :
    Calls Tryz.prog 17 #[.pointer none] w fun e w' => e = .returned (.slice none 0 0) ∧ Below w.heap.size w w' := by
  go_enter Tryz.func17, Tryz.ntmps17
  go_wp2_with fail
  go_ret
  exact ⟨rfl, Below.refl _ _⟩
end Go.Proofs.YtibgiohijknmbaaGreatDoor

/-
  (*Stack).Fetch; on a nil stack: of about:blank and of blob:null/x.
-/
namespace Go.Proofs.YtibgiohijknmbaaGreatDoor
open Go.RowKit
set_option linter.unusedVariables false
set_option linter.unusedSimpArgs false

set_option maxRecDepth 100000 in
set_option maxHeartbeats 1000000 in
theorem sfetch_c (sp : Option Addr) (s os oh : ByteArray) (op on : Int) (tp : Option Addr) (a b c d : Int) (k : ByteArray) (ba : Option Addr) (bn bc : Nat) (w : World)
    (hF : ∀ W, Below w.heap.size w W → Calls Tryz.prog 25 #[.iface 25 (.pointer sp), .string s, .agg (oriV os oh op on), .pointer tp] W fun e w' => e = .returned (.agg (ansV a b c d k (.slice ba bn bc))) ∧ Below W.heap.size W w') :
    Calls Tryz.prog 18 #[.pointer sp, .string s, .agg (oriV os oh op on), .pointer tp] w fun e w' => e = .returned (.agg (ansV a b c d k (.slice ba bn bc))) ∧ Below w.heap.size w w' := by
  have hb0 : Below w.heap.size w ((w.alloc (.cells (oriV os oh op on) 23)).alloc (.cells ans0 47)) := ((Below.refl _ _).alloc (Nat.le_refl _) _).alloc (by simp) _
  have hF0 := hF _ hb0
  have hr0 : ((w.alloc (.cells (oriV os oh op on) 23)).alloc (.cells ans0 47)).heap[w.heap.size + 1]? = some (.cells ans0 47 (0, 0)) := by
    have := heap_last (w.alloc (.cells (oriV os oh op on) 23)) (.cells ans0 47)
    rw [show (w.alloc (.cells (oriV os oh op on) 23)).heap.size = w.heap.size + 1 by simp] at this
    exact this
  have ho0 : ((w.alloc (.cells (oriV os oh op on) 23)).alloc (.cells ans0 47)).heap[w.heap.size]? = some (.cells (oriV os oh op on) 23 (0, 0)) := by
    rw [Below.heap_alloc _ _ _ (by simp)]
    exact heap_last _ _
  have hsz : ((w.alloc (.cells (oriV os oh op on) 23)).alloc (.cells ans0 47)).heap.size = w.heap.size + 2 := by simp
  clear hF
  obtain ⟨W0, hW0⟩ : ∃ W, W = (w.alloc (.cells (oriV os oh op on) 23)).alloc (.cells ans0 47) := ⟨_, rfl⟩
  rw [← hW0] at hF0 hb0 hr0 hsz ho0
  have HW : Hid (((w.alloc (.cells #[.string os, .string oh, .int .i64 op, .int .i64 on] 23)).alloc (.cells #[.int .i64 0, .int .i64 0, .int .i64 0, .int .i64 0, .string ⟨#[]⟩, .slice none 0 0] 47)) = W0) := Lib.hid hW0.symm
  clear hW0
  have c0 : W0.cell? ⟨w.heap.size, 0, none⟩ = some (.string os) := Lib.cell_of_heap ho0 0
  have c1 : W0.cell? ⟨w.heap.size, 1, none⟩ = some (.string oh) := Lib.cell_of_heap ho0 1
  have c2 : W0.cell? ⟨w.heap.size, 2, none⟩ = some (.int .i64 op) := Lib.cell_of_heap ho0 2
  have c3 : W0.cell? ⟨w.heap.size, 3, none⟩ = some (.int .i64 on) := Lib.cell_of_heap ho0 3
  have HR := Lib.hid hr0
  have HSZ := Lib.hid hsz
  clear ho0 hr0 hsz
  unfold oriV at hF0 ⊢
  go_enter Tryz.func18, Tryz.ntmps18
  go_wp2_with (rw [HW.out])
  refine hF0.mono ?_
  rintro e w2 ⟨rfl, hb2⟩
  have hs2 := HSZ.out
  have hr2 := (hb2.block (w.heap.size + 1) (by omega)).trans HR.out
  have hB2 := hb0.trans (hb2.mono hb0.size)
  have r0 : w2.cell? ⟨w.heap.size + 1, 0, none⟩ = some (.int .i64 0) := Lib.cell_of_heap hr2 0
  have r1 : w2.cell? ⟨w.heap.size + 1, 1, none⟩ = some (.int .i64 0) := Lib.cell_of_heap hr2 1
  have r2 : w2.cell? ⟨w.heap.size + 1, 2, none⟩ = some (.int .i64 0) := Lib.cell_of_heap hr2 2
  have r3 : w2.cell? ⟨w.heap.size + 1, 3, none⟩ = some (.int .i64 0) := Lib.cell_of_heap hr2 3
  have r4 : w2.cell? ⟨w.heap.size + 1, 4, none⟩ = some (.string ⟨#[]⟩) := Lib.cell_of_heap hr2 4
  have r5 : w2.cell? ⟨w.heap.size + 1, 5, none⟩ = some (.slice none 0 0) := Lib.cell_of_heap hr2 5
  have rz := fun j => frozen_of_row w2 (w.heap.size + 1) j _ _ hr2
  have hlt2 : w.heap.size + 1 < w2.heap.size := by have := hb2.size; omega
  clear hr2 hb2 hF0 c0 c1 c2 c3 HW hs2
  unfold ansV
  go_wp2_with fail
  refine bodyPost_ret (v := .agg #[.int .i64 a, .int .i64 b, .int .i64 c, .int .i64 d, .string k, .slice ba bn bc]) (by simp [results, Tryz.results18, go_sem, r0, r1, r2, r3, r4, r5]) rfl ?_
  refine ⟨rfl, ?_⟩
  iterate 6 refine below_set ?_ _ _ (Nat.le_succ _) _
  exact hB2
end Go.Proofs.YtibgiohijknmbaaGreatDoor

/-
  A nil stack's fetches: about:blank, blob:null/x.
-/
namespace Go.Proofs.YtibgiohijknmbaaGreatDoor
open Go.RowKit
set_option linter.unusedVariables false
set_option linter.unusedSimpArgs false

def opqP (sch rest : List UInt8) : PSt := { pst0 with sch := bstr sch, opq := true, text := bstr rest }
instance (r : List UInt8) : Decidable (RestOk r) := by unfold RestOk; infer_instance
theorem parse_is (sch rest : List UInt8) (s : ByteArray) (m : Int) (w : World) (hT : Lib.Utf8Tabs 1 2 w) (hm : w.cell? ⟨0, 0, none⟩ = some (.int .i64 m)) (h0 : 0 < w.heap.size) (hs : s.size ≤ 65536)
    (hst : s.data.toList = opqText sch rest [] false) (h1 : SchemeOk sch) (h2 : RestOk rest) :
    Calls Tryz.prog 26 #[.string s, .pointer none] w (ParseIs w (opqP sch rest)) :=
  (parse_opq sch rest [] false s m w hT hm h0 hs hst (fun _ => rfl) h1 h2 (by decide)).mono fun e w' ⟨pa, pn, pc, he, hb⟩ => ⟨pa, pn, pc, he, hb⟩

def aboutS : ByteArray := ⟨#[97, 98, 111, 117, 116, 58, 98, 108, 97, 110, 107]⟩
def blobS : ByteArray := ⟨#[98, 108, 111, 98, 58, 110, 117, 108, 108, 47, 120]⟩
theorem nilfetch_about (os oh : ByteArray) (op on : Int) (m : Int) (w : World) (hT : Lib.Utf8Tabs 1 2 w) (hm : w.cell? ⟨0, 0, none⟩ = some (.int .i64 m)) (h0 : 0 < w.heap.size) :
    Calls Tryz.prog 18 #[.pointer none, .string aboutS, .agg (oriV os oh op on), .pointer none] w fun e w' => e = .returned (.agg (ansV 3 200 0 0 nothingS (.slice none 0 0))) ∧ Below w.heap.size w w' :=
  sfetch_c none aboutS os oh op on none 3 200 0 0 nothingS none 0 0 w fun W hb =>
    fetch_plain _ aboutS os oh op on none (opqP [97, 98, 111, 117, 116] [98, 108, 97, 110, 107]) W (fun X hX =>
      parse_is _ _ aboutS m X (utf8tabs_below hT (hb.trans (hX.mono hb.size))) (((hb.trans (hX.mono hb.size)).cell (p := ⟨0, 0, none⟩) h0).trans hm) (Nat.lt_of_lt_of_le h0 (hb.trans (hX.mono hb.size)).size) (by decide) (by decide) (by decide) (by decide)) (by decide)
set_option maxRecDepth 100000 in
theorem nilfetch_blob (os oh : ByteArray) (op on : Int) (m : Int) (w : World) (hT : Lib.Utf8Tabs 1 2 w) (hm : w.cell? ⟨0, 0, none⟩ = some (.int .i64 m)) (h0 : 0 < w.heap.size) :
    Calls Tryz.prog 18 #[.pointer none, .string blobS, .agg (oriV os oh op on), .pointer none] w fun e w' => e = .returned (.agg (ansV 1 0 0 0 ⟨#[]⟩ (.slice none 0 0))) ∧ Below w.heap.size w w' :=
  sfetch_c none blobS os oh op on none 1 0 0 0 ⟨#[]⟩ none 0 0 w fun W hb =>
    fetch_noblob none blobS os oh op on none (opqP [98, 108, 111, 98] [110, 117, 108, 108, 47, 120]) W (fun X hX =>
      parse_is _ _ blobS m X (utf8tabs_below hT (hb.trans (hX.mono hb.size))) (((hb.trans (hX.mono hb.size)).cell (p := ⟨0, 0, none⟩) h0).trans hm) (Nat.lt_of_lt_of_le h0 (hb.trans (hX.mono hb.size)).size) (by decide) (by decide) (by decide) (by decide)) (by decide)
      (fun X => by rfl)
      (fun X pa pn pc hX => (blob_nil _ _ _ _ _ _ _ _ pa pn pc _ _ _ _ os oh op on X).mono fun e w' ⟨he, hb⟩ => ⟨none, he, hb⟩)
end Go.Proofs.YtibgiohijknmbaaGreatDoor

/-
  carryalllaw27.StackNil: its walk.
-/
namespace Go.Proofs.YtibgiohijknmbaaGreatDoor
open Go.RowKit
set_option linter.unusedVariables false
set_option linter.unusedSimpArgs false

/-- The world in the middle of the law: the origin's box. -/
structure LInv (m : Int) (os oh : ByteArray) (op on : Int) (w W : World) : Prop where
  box : W.heap[w.heap.size]? = some (.cells (oriV os oh op on) 23 (0, 0))
  bel : Below w.heap.size w W
  tab : Lib.Utf8Tabs 1 2 W
  max : W.cell? ⟨0, 0, none⟩ = some (.int .i64 m)
  pos : 0 < W.heap.size
theorem LInv.below {m : Int} {os oh : ByteArray} {op on : Int} {w W W' : World} (h : LInv m os oh op on w W) (k : Below W.heap.size W W') : LInv m os oh op on w W' :=
  ⟨(k.block _ (Array.getElem?_eq_some_iff.1 h.box).1).trans h.box, h.bel.trans (k.mono h.bel.size), utf8tabs_below h.tab k, (k.cell (p := ⟨0, 0, none⟩) h.pos).trans h.max, Nat.lt_of_lt_of_le h.pos k.size⟩
theorem LInv.c0 {m : Int} {os oh : ByteArray} {op on : Int} {w W : World} (h : LInv m os oh op on w W) : W.cell? ⟨w.heap.size, 0, none⟩ = some (.string os) := Lib.cell_of_heap h.box 0
theorem LInv.c1 {m : Int} {os oh : ByteArray} {op on : Int} {w W : World} (h : LInv m os oh op on w W) : W.cell? ⟨w.heap.size, 1, none⟩ = some (.string oh) := Lib.cell_of_heap h.box 1
theorem LInv.c2 {m : Int} {os oh : ByteArray} {op on : Int} {w W : World} (h : LInv m os oh op on w W) : W.cell? ⟨w.heap.size, 2, none⟩ = some (.int .i64 op) := Lib.cell_of_heap h.box 2
theorem LInv.c3 {m : Int} {os oh : ByteArray} {op on : Int} {w W : World} (h : LInv m os oh op on w W) : W.cell? ⟨w.heap.size, 3, none⟩ = some (.int .i64 on) := Lib.cell_of_heap h.box 3

theorem field_status (a b c d : Int) (k : ByteArray) (ba : Option Addr) (bn bc : Nat) (W : World) : (Instr.field 47 (.agg (ansV a b c d k (.slice ba bn bc))) 1).run Tryz.prog W = .ok (.int .i64 b) W := by kernel_rfl
set_option maxRecDepth 100000 in
set_option maxHeartbeats 1000000 in
theorem stacknil_c (h : Int) (name os oh : ByteArray) (op on m : Int) (w : World) (hT : Lib.Utf8Tabs 1 2 w) (hm : w.cell? ⟨0, 0, none⟩ = some (.int .i64 m)) (h0 : 0 < w.heap.size) :
    Calls Tryz.prog 3 #[.int .i64 h, .string name, .agg (oriV os oh op on)] w fun e w' => e = .returned (.bool true) ∧ Below w.heap.size w w' := by
  have hb0 : Below w.heap.size w (w.alloc (.cells (oriV os oh op on) 23)) := (Below.refl _ _).alloc (Nat.le_refl _) _
  have I0 : LInv m os oh op on w (w.alloc (.cells (oriV os oh op on) 23)) := ⟨heap_last _ _, hb0, utf8tabs_below hT hb0, (hb0.cell (p := ⟨0, 0, none⟩) h0).trans hm, by simp⟩
  have hW : w.alloc (.cells (oriV os oh op on) 23) = w.alloc (.cells #[.string os, .string oh, .int .i64 op, .int .i64 on] 23) := rfl
  rw [hW] at I0
  clear hb0 hT hm hW
  have hcv := fun (W : World) => Lib.run_convert_bytes_const (P := Tryz.prog) W 29 5 #[.int .u8 97] 1 1 Tryz.underlying29 Tryz.underlying5
  have hf1 := fun W => field_status 3 200 0 0 nothingS none 0 0 W
  have hf2 := fun W => field_status 1 0 0 0 ⟨#[]⟩ none 0 0 W
  unfold ansV at hf1 hf2
  unfold oriV
  by_cases hlen : 500 < name.size
  · have HL1 : ¬ (name.size : Int) ≤ 500 := by omega
    have HL2 : 500 < (name.size : Int) := by omega
    go_enter Tryz.func3, Tryz.ntmps3
    go_wp2_with fail
    generalize w.alloc (.cells #[.string os, .string oh, .int .i64 op, .int .i64 on] 23) = W0 at *
    refine (awake_c m _ I0.max I0.pos).mono ?_
    rintro e w1 ⟨rfl, hb1⟩
    have I1 := I0.below hb1
    go_wp2_with fail
    refine (awake_c m _ I1.max I1.pos).mono ?_
    rintro e w2 ⟨rfl, hb2⟩
    have I2 := I1.below hb2
    go_wp2_with fail
    go_ret
    exact ⟨rfl, I2.bel⟩
  · have HL1 : (name.size : Int) ≤ 500 := by omega
    have HL2 : ¬ 500 < (name.size : Int) := by omega
    clear hlen
    go_enter Tryz.func3, Tryz.ntmps3
    go_wp2_with fail
    generalize w.alloc (.cells #[.string os, .string oh, .int .i64 op, .int .i64 on] 23) = W0 at *
    refine (awake_c m _ I0.max I0.pos).mono ?_
    rintro e w1 ⟨rfl, hb1⟩
    have I1 := I0.below hb1
    clear I0 hb1
    go_wp2_with fail
    have I1' := I1.below (W' := w1.alloc (.cells #[.int .u8 97] 5 (1, 2))) ((Below.refl _ _).alloc (Nat.le_refl _) _)
    generalize w1.alloc (.cells #[.int .u8 97] 5 (1, 2)) = W1 at *
    refine (create_nil _ _ _).mono ?_
    rintro e w2 ⟨rfl, hb⟩
    have I2 := I1'.below hb
    clear I1' hb
    clear hcv I1
    have k0 := I2.c0
    have k1 := I2.c1
    have k2 := I2.c2
    have k3 := I2.c3
    go_wp2_with fail
    clear k0 k1 k2 k3
    refine (slice_nil h none none _ _).mono ?_
    rintro e w3 ⟨rfl, hb⟩
    have I3 := I2.below hb
    clear I2 hb
    have k0 := I3.c0
    have k1 := I3.c1
    have k2 := I3.c2
    have k3 := I3.c3
    go_wp2_with fail
    clear k0 k1 k2 k3
    refine (register_nil os oh op on h _ _).mono ?_
    rintro e w4 ⟨rfl, hb⟩
    have I4 := I3.below hb
    clear I3 hb
    have k0 := I4.c0
    have k1 := I4.c1
    have k2 := I4.c2
    have k3 := I4.c3
    go_wp2_with fail
    clear k0 k1 k2 k3
    refine (notice_nil _).mono ?_
    rintro e w5 ⟨rfl, hb⟩
    have I5 := I4.below hb
    clear I4 hb
    have k0 := I5.c0
    have k1 := I5.c1
    have k2 := I5.c2
    have k3 := I5.c3
    go_wp2_with fail
    clear k0 k1 k2 k3
    refine (blob_nil _ _ _ _ _ _ _ _ _ _ _ _ _ _ _ os oh op on _).mono ?_
    rintro e w6 ⟨rfl, hb⟩
    have I6 := I5.below hb
    clear I5 hb
    have k0 := I6.c0
    have k1 := I6.c1
    have k2 := I6.c2
    have k3 := I6.c3
    go_wp2_with fail
    clear k0 k1 k2 k3
    refine (forget_nil h _).mono ?_
    rintro e w7 ⟨rfl, hb⟩
    have I7 := I6.below hb
    clear I6 hb
    have k0 := I7.c0
    have k1 := I7.c1
    have k2 := I7.c2
    have k3 := I7.c3
    go_wp2_with fail
    clear k0 k1 k2 k3
    refine (revoke_nil name os oh op on _).mono ?_
    rintro e w8 ⟨rfl, hb⟩
    have I8 := I7.below hb
    clear I7 hb
    have k0 := I8.c0
    have k1 := I8.c1
    have k2 := I8.c2
    have k3 := I8.c3
    go_wp2_with fail
    clear k0 k1 k2 k3
    refine (bytes_nil _).mono ?_
    rintro e w9 ⟨rfl, hb⟩
    have I9 := I8.below hb
    clear I8 hb
    have k0 := I9.c0
    have k1 := I9.c1
    have k2 := I9.c2
    have k3 := I9.c3
    go_wp2_with fail
    clear k0 k1 k2 k3
    refine (urls_nil _).mono ?_
    rintro e w10 ⟨rfl, hb⟩
    have I10 := I9.below hb
    clear I9 hb
    have k0 := I10.c0
    have k1 := I10.c1
    have k2 := I10.c2
    have k3 := I10.c3
    go_wp2_with fail
    clear k0 k1 k2 k3
    refine (nilfetch_about os oh op on m _ I10.tab I10.max I10.pos).mono ?_
    rintro e w11 ⟨rfl, hb⟩
    have I11 := I10.below hb
    clear I10 hb
    unfold ansV
    have k0 := I11.c0
    have k1 := I11.c1
    have k2 := I11.c2
    have k3 := I11.c3
    go_wp2_with fail
    clear k0 k1 k2 k3
    refine (nilfetch_blob os oh op on m _ I11.tab I11.max I11.pos).mono ?_
    rintro e w12 ⟨rfl, hb⟩
    have I12 := I11.below hb
    clear I11 hb
    unfold ansV
    have k0 := I12.c0
    have k1 := I12.c1
    have k2 := I12.c2
    have k3 := I12.c3
    go_wp2_with fail
    clear k0 k1 k2 k3
    go_ret
    exact ⟨rfl, I12.bel⟩
end Go.Proofs.YtibgiohijknmbaaGreatDoor
