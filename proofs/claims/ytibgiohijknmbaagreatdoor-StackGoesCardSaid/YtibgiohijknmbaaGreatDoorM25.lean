/-
  Joined texts: FBy, Fetch3, SFe2, GoeF, GoeG.
-/
import Derived.Test.YtibgiohijknmbaaGreatDoorM24
import Derived.Test.YtibgiohijknmbaaGreatDoorM15
import Derived.Test.YtibgiohijknmbaaGreatDoorM12
/-
  fetch.bytes: all of a blob.
-/
namespace Go.Proofs.YtibgiohijknmbaaGreatDoor
open Go.RowKit
set_option linter.unusedVariables false
set_option linter.unusedSimpArgs false

theorem BytesOwn.set {w : World} {B b j : Nat} {v u : Value} {l : List UInt8} (h : BytesOwn w B v l) (hb : b < B) : BytesOwn (w.setCell ⟨b, j, none⟩ u) B v l :=
  ownsRow_setCell_other h (fun e => by have := (World.ownsRow.lt h b e).1; omega) _
def FBytesOk (srt : Int) (l : List UInt8) (k : ByteArray) (w : World) (e : Ending) (w' : World) : Prop :=
  ∃ a cap, e = .returned (.agg (ansV srt 200 0 (l.length : Int) k (.slice a l.length cap))) ∧ BytesOwn w' w.heap.size (.slice a l.length cap) l ∧ Below w.heap.size w w'
set_option maxRecDepth 100000 in
set_option maxHeartbeats 2000000 in
theorem fbytes_nil (B blk : Nat) (l : List UInt8) (k : ByteArray) (srt : Int) (w : World) (h : BlobAt w B blk l k) (hlen : l.length ≤ 1048576) :
    Calls Tryz.prog 53 #[.pointer (some ⟨blk, 0, none⟩), .pointer none, .agg (ansV srt 0 0 0 ⟨#[]⟩ (.slice none 0 0))] w (FBytesOk srt l k w) := by
  have hs1 : (w.alloc (.cells (ansV srt 0 0 0 ⟨#[]⟩ (.slice none 0 0)) 47)).heap.size = w.heap.size + 1 := by simp
  have hb0 : Below w.heap.size w ((w.alloc (.cells (ansV srt 0 0 0 ⟨#[]⟩ (.slice none 0 0)) 47)).alloc (.cells ans0 47)) := ((Below.refl _ _).alloc (Nat.le_refl _) _).alloc (by rw [hs1]; omega) _
  have ha0 : ((w.alloc (.cells (ansV srt 0 0 0 ⟨#[]⟩ (.slice none 0 0)) 47)).alloc (.cells ans0 47)).heap[w.heap.size]? = some (.cells (ansV srt 0 0 0 ⟨#[]⟩ (.slice none 0 0)) 47 (0, 0)) := by
    rw [Below.heap_alloc _ _ _ (by rw [hs1]; omega)]
    exact heap_last _ _
  have hr0 : ((w.alloc (.cells (ansV srt 0 0 0 ⟨#[]⟩ (.slice none 0 0)) 47)).alloc (.cells ans0 47)).heap[w.heap.size + 1]? = some (.cells ans0 47 (0, 0)) := by
    have := heap_last (w.alloc (.cells (ansV srt 0 0 0 ⟨#[]⟩ (.slice none 0 0)) 47)) (.cells ans0 47)
    rw [hs1] at this
    exact this
  have hsz0 : ((w.alloc (.cells (ansV srt 0 0 0 ⟨#[]⟩ (.slice none 0 0)) 47)).alloc (.cells ans0 47)).heap.size = w.heap.size + 2 := by simp
  have h0 := h.later hb0
  obtain ⟨W0, hW0⟩ : ∃ W, W = ((w.alloc (.cells (ansV srt 0 0 0 ⟨#[]⟩ (.slice none 0 0)) 47)).alloc (.cells ans0 47)) := ⟨_, rfl⟩
  rw [← hW0] at hb0 ha0 hr0 h0 hsz0
  unfold ansV ans0 ansV at hW0
  unfold ansV at ha0 ⊢
  unfold ans0 ansV at hr0
  have HW : Hid ((w.alloc (.cells #[.int .i64 srt, .int .i64 0, .int .i64 0, .int .i64 0, .string ⟨#[]⟩, .slice none 0 0] 47)).alloc (.cells #[.int .i64 0, .int .i64 0, .int .i64 0, .int .i64 0, .string ⟨#[]⟩, .slice none 0 0] 47) = W0) := Lib.hid hW0.symm
  have hle := len_c B blk l k W0 h0
  have hki := bkind_c B blk l k W0 h0
  have hby := bytes_c B blk l k W0 h0 (by omega)
  have HB0 := Lib.hid hb0
  have HA0 := Lib.hid ha0
  have HR0 := Lib.hid hr0
  have HSZ := Lib.hid hsz0
  clear hW0 hs1 hb0 ha0 hr0 h0 h hsz0
  go_enter Tryz.func53, Tryz.ntmps53
  go_wp2_with (rw [HW.out])
  refine hle.mono ?_
  rintro e w1 ⟨rfl, rfl⟩
  go_wp2_with fail
  refine hki.mono ?_
  rintro e w2 ⟨rfl, rfl⟩
  go_wp2_with fail
  refine hby.mono ?_
  rintro e w3 ⟨v, rfl, hv, hb3⟩
  obtain ⟨a, cap, rfl, _, _, _⟩ := hv.open
  have hz := HSZ.out
  have hz3 := hb3.size
  have hv2 : BytesOwn w3 (w.heap.size + 2) (.slice a l.length cap) l := by rw [← hz]; exact hv
  have ha3 := (hb3.block w.heap.size (by omega)).trans HA0.out
  have hr3 := (hb3.block (w.heap.size + 1) (by omega)).trans HR0.out
  have HV := Lib.hid hv2
  have HB3 := Lib.hid (HB0.out.trans (hb3.mono HB0.out.size))
  have a0 : w3.cell? ⟨w.heap.size, 0, none⟩ = some (.int .i64 srt) := Lib.cell_of_heap ha3 0
  have a1 : w3.cell? ⟨w.heap.size, 1, none⟩ = some (.int .i64 0) := Lib.cell_of_heap ha3 1
  have a2 : w3.cell? ⟨w.heap.size, 2, none⟩ = some (.int .i64 0) := Lib.cell_of_heap ha3 2
  have a3 : w3.cell? ⟨w.heap.size, 3, none⟩ = some (.int .i64 0) := Lib.cell_of_heap ha3 3
  have a4 : w3.cell? ⟨w.heap.size, 4, none⟩ = some (.string ⟨#[]⟩) := Lib.cell_of_heap ha3 4
  have a5 : w3.cell? ⟨w.heap.size, 5, none⟩ = some (.slice none 0 0) := Lib.cell_of_heap ha3 5
  have r0 : w3.cell? ⟨w.heap.size + 1, 0, none⟩ = some (.int .i64 0) := Lib.cell_of_heap hr3 0
  have r1 : w3.cell? ⟨w.heap.size + 1, 1, none⟩ = some (.int .i64 0) := Lib.cell_of_heap hr3 1
  have r2 : w3.cell? ⟨w.heap.size + 1, 2, none⟩ = some (.int .i64 0) := Lib.cell_of_heap hr3 2
  have r3 : w3.cell? ⟨w.heap.size + 1, 3, none⟩ = some (.int .i64 0) := Lib.cell_of_heap hr3 3
  have r4 : w3.cell? ⟨w.heap.size + 1, 4, none⟩ = some (.string ⟨#[]⟩) := Lib.cell_of_heap hr3 4
  have r5 : w3.cell? ⟨w.heap.size + 1, 5, none⟩ = some (.slice none 0 0) := Lib.cell_of_heap hr3 5
  have az := fun j => frozen_of_row w3 w.heap.size j _ _ ha3
  have rz := fun j => frozen_of_row w3 (w.heap.size + 1) j _ _ hr3
  have hl0 : w.heap.size < w3.heap.size := by omega
  have hl1 : w.heap.size + 1 < w3.heap.size := by omega
  clear hv hv2 ha3 hr3 hb3 hle hki hby HW hz hz3
  go_wp2_with fail
  refine bodyPost_ret (v := .agg #[.int .i64 srt, .int .i64 200, .int .i64 0, .int .i64 (l.length : Int), .string k, .slice a l.length cap]) (by simp [results, Tryz.results53, go_sem, r0, r1, r2, r3, r4, r5, a0, a1, a2, a3, a4, a5, hl0, hl1]) rfl ?_
  refine ⟨a, cap, rfl, ?_, ?_⟩
  · refine BytesOwn.base (B := w.heap.size + 2) ?_ (by omega)
    iterate 10 refine BytesOwn.set ?_ (by omega)
    exact HV.out
  · iterate 6 refine below_set ?_ _ _ (Nat.le_succ _) _
    iterate 4 refine below_set ?_ _ _ (Nat.le_refl _) _
    exact HB3.out
end Go.Proofs.YtibgiohijknmbaaGreatDoor

/-
  fetch.Fetch where a blob is found.
-/
namespace Go.Proofs.YtibgiohijknmbaaGreatDoor
open Go.RowKit
set_option linter.unusedVariables false
set_option linter.unusedSimpArgs false

def AnsIs (st fi tl : Int) (k : ByteArray) (l : List UInt8) (w : World) (e : Ending) (w' : World) : Prop :=
  ∃ a cap, e = .returned (.agg (ansV 1 st fi tl k (.slice a l.length cap))) ∧ BytesOwn w' w.heap.size (.slice a l.length cap) l ∧ Below w.heap.size w w'
set_option maxRecDepth 100000 in
set_option maxHeartbeats 2000000 in
theorem fetch_blob (sp : Option Addr) (blk : Nat) (s : ByteArray) (os oh : ByteArray) (op on : Int) (tp : Option Addr) (p : PSt) (st fi tl : Int) (k : ByteArray) (l : List UInt8) (w : World)
    (hP : ∀ W, Below w.heap.size w W → Calls Tryz.prog 26 #[.string s, .pointer none] W (ParseIs W p)) (hsort : sortI p.sch p.opq p.text = 1) (hme : ∀ W, (method 529 25 (.pointer sp) "Blob").run Tryz.prog W = .ok (13, (.pointer sp)) W)
    (hB : ∀ W pa pn pc, Below w.heap.size w W → Calls Tryz.prog 13 #[(.pointer sp), .agg (PSt.url { p with path := .slice pa pn pc }), .agg (oriV os oh op on)] W fun e w' => e = .returned (.tuple #[.pointer (some ⟨blk, 0, none⟩), .bool true]) ∧ Below W.heap.size W w')
    (hBy : ∀ W, Below w.heap.size w W → Calls Tryz.prog 53 #[.pointer (some ⟨blk, 0, none⟩), .pointer tp, .agg (ansV 1 0 0 0 ⟨#[]⟩ (.slice none 0 0))] W (AnsIs st fi tl k l W)) :
    Calls Tryz.prog 25 #[.iface 25 (.pointer sp), .string s, .agg (oriV os oh op on), .pointer tp] w (AnsIs st fi tl k l w) := by
  have HBY := Lib.hid hBy
  clear hBy
  have hb0 : Below w.heap.size w ((w.alloc (.cells (oriV os oh op on) 23)).alloc (.cells ans0 47)) := ((Below.refl _ _).alloc (Nat.le_refl _) _).alloc (by simp) _
  have hP0 := hP _ hb0
  have hr0 : ((w.alloc (.cells (oriV os oh op on) 23)).alloc (.cells ans0 47)).heap[w.heap.size + 1]? = some (.cells ans0 47 (0, 0)) := by
    have := heap_last (w.alloc (.cells (oriV os oh op on) 23)) (.cells ans0 47)
    rw [show (w.alloc (.cells (oriV os oh op on) 23)).heap.size = w.heap.size + 1 by simp] at this
    exact this
  have ho0 : ((w.alloc (.cells (oriV os oh op on) 23)).alloc (.cells ans0 47)).heap[w.heap.size]? = some (.cells (oriV os oh op on) 23 (0, 0)) := by
    rw [Below.heap_alloc _ _ _ (by simp)]
    exact heap_last _ _
  have hz0 : ((w.alloc (.cells (oriV os oh op on) 23)).alloc (.cells ans0 47)).heap.size = w.heap.size + 2 := by simp
  have HSO := Lib.hid hsort
  clear hP hsort
  have hgen : ∀ W, W = (w.alloc (.cells (oriV os oh op on) 23)).alloc (.cells ans0 47) → W = (w.alloc (.cells #[.string os, .string oh, .int .i64 op, .int .i64 on] 23)).alloc (.cells #[.int .i64 0, .int .i64 0, .int .i64 0, .int .i64 0, .string ⟨#[]⟩, .slice none 0 0] 47) := fun _ h => h
  obtain ⟨W0, hW0⟩ : ∃ W, W = (w.alloc (.cells (oriV os oh op on) 23)).alloc (.cells ans0 47) := ⟨_, rfl⟩
  rw [← hW0] at hP0 hb0 hr0 hz0 ho0
  have hW1 := Lib.hid (hgen _ hW0)
  clear hW0 hgen
  unfold oriV
  go_enter Tryz.func25, Tryz.ntmps25
  go_wp2_with fail
  rw [← hW1.out]
  clear hW1
  refine hP0.mono ?_
  rintro e w1 ⟨pa, pn, pc, rfl, hb1⟩
  have hr1 := (hb1.block _ (by omega)).trans hr0
  have hB1 := hb0.trans (hb1.mono hb0.size)
  have hz1 : w.heap.size + 2 ≤ w1.heap.size := by have := hb1.size; omega
  have HR1 := Lib.hid hr1
  have HO1 := Lib.hid ((hb1.block w.heap.size (by omega)).trans ho0)
  clear hP0 hb0 hr0 hr1 hb1 hz0 ho0
  unfold PSt.url
  simp only
  have hso := fun W => sort_c { p with path := .slice pa pn pc } pa pn pc rfl W
  simp only at hso
  rw [HSO.out] at hso
  unfold PSt.url at hso
  simp only at hso
  go_wp2_with fail
  refine (hso _).mono ?_
  rintro e w2 ⟨rfl, hb2⟩
  have hz2 : w1.heap.size + 1 ≤ w2.heap.size := by have := hb2.size; simp at this; omega
  have hr2 := (hb2.block (w.heap.size + 1) (by simp; omega)).trans ((Below.heap_alloc _ _ _ (by omega)).trans HR1.out)
  have hB2 := (hB1.alloc hB1.size _).trans (hb2.mono (by simp; omega))
  have HR2 := Lib.hid hr2
  have hlt2 : w.heap.size + 1 < w2.heap.size := by omega
  have hu2 := (hb2.block w1.heap.size (by simp)).trans (heap_last w1 _)
  have ho2 := (hb2.block w.heap.size (by simp; omega)).trans ((Below.heap_alloc _ _ _ (by omega)).trans HO1.out)
  have u0 : w2.cell? ⟨w1.heap.size, 0, none⟩ = some (.string p.sch) := Lib.cell_of_heap hu2 0
  have u1 : w2.cell? ⟨w1.heap.size, 1, none⟩ = some (.string p.user) := Lib.cell_of_heap hu2 1
  have u2 : w2.cell? ⟨w1.heap.size, 2, none⟩ = some (.string p.pass) := Lib.cell_of_heap hu2 2
  have u3 : w2.cell? ⟨w1.heap.size, 3, none⟩ = some (.string p.host) := Lib.cell_of_heap hu2 3
  have u4 : w2.cell? ⟨w1.heap.size, 4, none⟩ = some (.bool p.hasHost) := Lib.cell_of_heap hu2 4
  have u5 : w2.cell? ⟨w1.heap.size, 5, none⟩ = some (.int .i64 p.port) := Lib.cell_of_heap hu2 5
  have u6 : w2.cell? ⟨w1.heap.size, 6, none⟩ = some (.bool p.opq) := Lib.cell_of_heap hu2 6
  have u7 : w2.cell? ⟨w1.heap.size, 7, none⟩ = some (.string p.text) := Lib.cell_of_heap hu2 7
  have u8 : w2.cell? ⟨w1.heap.size, 8, none⟩ = some (.slice pa pn pc) := Lib.cell_of_heap hu2 8
  have u9 : w2.cell? ⟨w1.heap.size, 9, none⟩ = some (.bool p.hasQ) := Lib.cell_of_heap hu2 9
  have u10 : w2.cell? ⟨w1.heap.size, 10, none⟩ = some (.bool p.hasF) := Lib.cell_of_heap hu2 10
  have u11 : w2.cell? ⟨w1.heap.size, 11, none⟩ = some (.string p.query) := Lib.cell_of_heap hu2 11
  have u12 : w2.cell? ⟨w1.heap.size, 12, none⟩ = some (.string p.frag) := Lib.cell_of_heap hu2 12
  have o0 : w2.cell? ⟨w.heap.size, 0, none⟩ = some (.string os) := Lib.cell_of_heap ho2 0
  have o1 : w2.cell? ⟨w.heap.size, 1, none⟩ = some (.string oh) := Lib.cell_of_heap ho2 1
  have o2 : w2.cell? ⟨w.heap.size, 2, none⟩ = some (.int .i64 op) := Lib.cell_of_heap ho2 2
  have o3 : w2.cell? ⟨w.heap.size, 3, none⟩ = some (.int .i64 on) := Lib.cell_of_heap ho2 3
  have hl1 : w1.heap.size < w2.heap.size := by omega
  have hl0 : w.heap.size < w2.heap.size := by omega
  clear hb2 hso hB1 hu2 ho2 hr2
  have hBB := Lib.hid hB
  clear hB
  have hne : ∀ W, (binOp .eql 108 (.iface 25 (.pointer sp)) .nilIface).run Tryz.prog W = .ok (.bool false) W := fun W => by rfl
  go_wp2_with fail
  refine (hBB.out _ pa pn pc (hB2.alloc hB2.size _)).mono ?_
  rintro e w3 ⟨rfl, hb3⟩
  have ha3 := (hb3.block w2.heap.size (by simp)).trans (heap_last w2 _)
  have hr3 := (hb3.block (w.heap.size + 1) (by simp; omega)).trans ((Below.heap_alloc _ _ _ (by omega)).trans HR2.out)
  have hB3 := (hB2.alloc hB2.size _).trans (hb3.mono (by simp; omega))
  have hz3 : w2.heap.size + 1 ≤ w3.heap.size := by have := hb3.size; simp at this; omega
  have a0 : w3.cell? ⟨w2.heap.size, 0, none⟩ = some (.int .i64 1) := Lib.cell_of_heap ha3 0
  have a1 : w3.cell? ⟨w2.heap.size, 1, none⟩ = some (.int .i64 0) := Lib.cell_of_heap ha3 1
  have a2 : w3.cell? ⟨w2.heap.size, 2, none⟩ = some (.int .i64 0) := Lib.cell_of_heap ha3 2
  have a3 : w3.cell? ⟨w2.heap.size, 3, none⟩ = some (.int .i64 0) := Lib.cell_of_heap ha3 3
  have a4 : w3.cell? ⟨w2.heap.size, 4, none⟩ = some (.string ⟨#[]⟩) := Lib.cell_of_heap ha3 4
  have a5 : w3.cell? ⟨w2.heap.size, 5, none⟩ = some (.slice none 0 0) := Lib.cell_of_heap ha3 5
  have HR3 := Lib.hid hr3
  have hby := HBY.out w3 hB3
  unfold ansV at hby
  clear ha3 hr3 hb3 hne hme u0 u1 u2 u3 u4 u5 u6 u7 u8 u9 u10 u11 u12 o0 o1 o2 o3
  go_wp2_with fail
  refine hby.mono ?_
  rintro e w4 ⟨a, cap, rfl, hv, hb4⟩
  have hr4 := (hb4.block (w.heap.size + 1) (by omega)).trans HR3.out
  have hB4 := hB3.trans (hb4.mono hB3.size)
  have hz4 : w2.heap.size + 1 ≤ w4.heap.size := by have := hb4.size; omega
  have hv2 : BytesOwn w4 (w.heap.size + 2) (.slice a l.length cap) l := hv.base (by omega)
  have HV := Lib.hid hv2
  have r0 : w4.cell? ⟨w.heap.size + 1, 0, none⟩ = some (.int .i64 0) := Lib.cell_of_heap hr4 0
  have r1 : w4.cell? ⟨w.heap.size + 1, 1, none⟩ = some (.int .i64 0) := Lib.cell_of_heap hr4 1
  have r2 : w4.cell? ⟨w.heap.size + 1, 2, none⟩ = some (.int .i64 0) := Lib.cell_of_heap hr4 2
  have r3 : w4.cell? ⟨w.heap.size + 1, 3, none⟩ = some (.int .i64 0) := Lib.cell_of_heap hr4 3
  have r4 : w4.cell? ⟨w.heap.size + 1, 4, none⟩ = some (.string ⟨#[]⟩) := Lib.cell_of_heap hr4 4
  have r5 : w4.cell? ⟨w.heap.size + 1, 5, none⟩ = some (.slice none 0 0) := Lib.cell_of_heap hr4 5
  have rz := fun j => frozen_of_row w4 (w.heap.size + 1) j _ _ hr4
  have hlt4 : w.heap.size + 1 < w4.heap.size := by omega
  clear hr4 hb4 hv hv2 hby a0 a1 a2 a3 a4 a5
  unfold ansV
  go_wp2_with fail
  refine bodyPost_ret (v := .agg #[.int .i64 1, .int .i64 st, .int .i64 fi, .int .i64 tl, .string k, .slice a l.length cap]) (by simp [results, Tryz.results25, go_sem, r0, r1, r2, r3, r4, r5, hlt4]) rfl ?_
  refine ⟨a, cap, rfl, ?_, ?_⟩
  · refine BytesOwn.base (B := w.heap.size + 2) ?_ (by omega)
    iterate 6 refine BytesOwn.set ?_ (by omega)
    exact HV.out
  · iterate 6 refine below_set ?_ _ _ (Nat.le_succ _) _
    exact hB4
end Go.Proofs.YtibgiohijknmbaaGreatDoor

/-
  (*Stack).Fetch where a blob is found.
-/
namespace Go.Proofs.YtibgiohijknmbaaGreatDoor
open Go.RowKit
set_option linter.unusedVariables false
set_option linter.unusedSimpArgs false

set_option maxRecDepth 100000 in
set_option maxHeartbeats 1000000 in
theorem sfetch_own (sp : Option Addr) (s os oh : ByteArray) (op on : Int) (tp : Option Addr) (b c d : Int) (k : ByteArray) (l : List UInt8) (w : World)
    (hF : ∀ W, Below w.heap.size w W → Calls Tryz.prog 25 #[.iface 25 (.pointer sp), .string s, .agg (oriV os oh op on), .pointer tp] W (AnsIs b c d k l W)) :
    Calls Tryz.prog 18 #[.pointer sp, .string s, .agg (oriV os oh op on), .pointer tp] w (AnsIs b c d k l w) := by
  have hb0 : Below w.heap.size w ((w.alloc (.cells (oriV os oh op on) 23)).alloc (.cells ans0 47)) := ((Below.refl _ _).alloc (Nat.le_refl _) _).alloc (by simp) _
  have hF0 := hF _ hb0
  have hr0 : ((w.alloc (.cells (oriV os oh op on) 23)).alloc (.cells ans0 47)).heap[w.heap.size + 1]? = some (.cells ans0 47 (0, 0)) := by
    have := heap_last (w.alloc (.cells (oriV os oh op on) 23)) (.cells ans0 47)
    rw [show (w.alloc (.cells (oriV os oh op on) 23)).heap.size = w.heap.size + 1 by simp] at this
    exact this
  have ho0 : ((w.alloc (.cells (oriV os oh op on) 23)).alloc (.cells ans0 47)).heap[w.heap.size]? = some (.cells (oriV os oh op on) 23 (0, 0)) := by
    rw [Below.heap_alloc _ _ _ (by simp)]
    exact heap_last _ _
  have hsz : ((w.alloc (.cells (oriV os oh op on) 23)).alloc (.cells ans0 47)).heap.size = w.heap.size + 2 := by simp
  clear hF
  obtain ⟨W0, hW0⟩ : ∃ W, W = (w.alloc (.cells (oriV os oh op on) 23)).alloc (.cells ans0 47) := ⟨_, rfl⟩
  rw [← hW0] at hF0 hb0 hr0 hsz ho0
  have HW : Hid (((w.alloc (.cells #[.string os, .string oh, .int .i64 op, .int .i64 on] 23)).alloc (.cells #[.int .i64 0, .int .i64 0, .int .i64 0, .int .i64 0, .string ⟨#[]⟩, .slice none 0 0] 47)) = W0) := Lib.hid hW0.symm
  clear hW0
  have c0 : W0.cell? ⟨w.heap.size, 0, none⟩ = some (.string os) := Lib.cell_of_heap ho0 0
  have c1 : W0.cell? ⟨w.heap.size, 1, none⟩ = some (.string oh) := Lib.cell_of_heap ho0 1
  have c2 : W0.cell? ⟨w.heap.size, 2, none⟩ = some (.int .i64 op) := Lib.cell_of_heap ho0 2
  have c3 : W0.cell? ⟨w.heap.size, 3, none⟩ = some (.int .i64 on) := Lib.cell_of_heap ho0 3
  have HR := Lib.hid hr0
  have HSZ := Lib.hid hsz
  clear ho0 hr0 hsz
  unfold oriV at hF0 ⊢
  go_enter Tryz.func18, Tryz.ntmps18
  go_wp2_with (rw [HW.out])
  refine hF0.mono ?_
  rintro e w2 ⟨ba, bc, rfl, hv, hb2⟩
  have hs2 := HSZ.out
  have hr2 := (hb2.block (w.heap.size + 1) (by omega)).trans HR.out
  have hB2 := hb0.trans (hb2.mono hb0.size)
  have r0 : w2.cell? ⟨w.heap.size + 1, 0, none⟩ = some (.int .i64 0) := Lib.cell_of_heap hr2 0
  have r1 : w2.cell? ⟨w.heap.size + 1, 1, none⟩ = some (.int .i64 0) := Lib.cell_of_heap hr2 1
  have r2 : w2.cell? ⟨w.heap.size + 1, 2, none⟩ = some (.int .i64 0) := Lib.cell_of_heap hr2 2
  have r3 : w2.cell? ⟨w.heap.size + 1, 3, none⟩ = some (.int .i64 0) := Lib.cell_of_heap hr2 3
  have r4 : w2.cell? ⟨w.heap.size + 1, 4, none⟩ = some (.string ⟨#[]⟩) := Lib.cell_of_heap hr2 4
  have r5 : w2.cell? ⟨w.heap.size + 1, 5, none⟩ = some (.slice none 0 0) := Lib.cell_of_heap hr2 5
  have rz := fun j => frozen_of_row w2 (w.heap.size + 1) j _ _ hr2
  have hlt2 : w.heap.size + 1 < w2.heap.size := by have := hb2.size; omega
  have hv2 : BytesOwn w2 (w.heap.size + 2) (.slice ba l.length bc) l := hv.base (by omega)
  have HV := Lib.hid hv2
  clear hv hv2 hr2 hb2 hF0 c0 c1 c2 c3 HW hs2
  unfold ansV
  go_wp2_with fail
  refine bodyPost_ret (v := .agg #[.int .i64 1, .int .i64 b, .int .i64 c, .int .i64 d, .string k, .slice ba l.length bc]) (by simp [results, Tryz.results18, go_sem, r0, r1, r2, r3, r4, r5]) rfl ?_
  refine ⟨ba, bc, rfl, ?_, ?_⟩
  · refine BytesOwn.base (B := w.heap.size + 2) ?_ (by omega)
    iterate 6 refine BytesOwn.set ?_ (by omega)
    exact HV.out
  · iterate 6 refine below_set ?_ _ _ (Nat.le_succ _) _
    exact hB2
end Go.Proofs.YtibgiohijknmbaaGreatDoor

/-
  The URL of an opaque origin's blob: what Parse, Bare and Fetch make of its text, with and without a fragment.
-/
namespace Go.Proofs.YtibgiohijknmbaaGreatDoor
open Go.RowKit
set_option linter.unusedVariables false
set_option linter.unusedSimpArgs false

def blobL : List UInt8 := [98, 108, 111, 98]
def nullL (l : List UInt8) : List UInt8 := [110, 117, 108, 108, 47] ++ l
def opqPF (sch rest frag : List UInt8) : PSt := { pst0 with sch := bstr sch, opq := true, text := bstr rest, hasF := true, frag := bstr (escL 1 frag) }
theorem good_ink {l : List UInt8} (h : ∀ c ∈ l, goodB c = true) : Ink (nullL l) ∧ 35 ∉ nullL l ∧ 63 ∉ nullL l := by
  have hg : ∀ c : UInt8, goodB c = true → 33 ≤ c.toNat ∧ c.toNat ≤ 126 ∧ c ≠ 35 ∧ c ≠ 63 := by
    intro c hc
    have h2 : ∀ n : Fin 256, goodB (UInt8.ofNat n.val) = true → 33 ≤ (UInt8.ofNat n.val).toNat ∧ (UInt8.ofNat n.val).toNat ≤ 126 ∧ UInt8.ofNat n.val ≠ 35 ∧ UInt8.ofNat n.val ≠ 63 := by decide +kernel
    have e : UInt8.ofNat c.toNat = c := by simp
    have := h2 ⟨c.toNat, c.toNat_lt⟩
    simp only [e] at this
    exact this hc
  refine ⟨?_, ?_, ?_⟩
  · intro c hc
    rcases List.mem_append.1 hc with h1 | h1
    · have : ∀ x ∈ ([110, 117, 108, 108, 47] : List UInt8), 33 ≤ x.toNat ∧ x.toNat ≤ 126 := by decide
      exact this c h1
    · obtain ⟨a, b, _⟩ := hg c (h c h1); exact ⟨a, b⟩
  · intro hc
    rcases List.mem_append.1 hc with h1 | h1
    · revert h1; decide
    · exact (hg _ (h _ h1)).2.2.1 rfl
  · intro hc
    rcases List.mem_append.1 hc with h1 | h1
    · revert h1; decide
    · exact (hg _ (h _ h1)).2.2.2 rfl
theorem null_rest {l : List UInt8} (h : ∀ c ∈ l, goodB c = true) : RestOk (nullL l) := by
  obtain ⟨a, b, c⟩ := good_ink h
  exact ⟨a, b, c, rfl⟩
theorem nameOf_text (l : List UInt8) : (nameOf l).data.toList = opqText blobL (nullL l) [] false := by
  simp [nameOf, bstr, opqText, blobNull, blobL, nullL]
theorem nameOf_size (l : List UInt8) (h : l.length = 36) : (nameOf l).size = 46 := by
  have : (nameOf l).size = (blobNull ++ l).length := by show (blobNull ++ l).toArray.size = _; simp
  rw [this, List.length_append, h]; rfl
theorem parse_name (l : List UInt8) (hl : l.length = 36) (hg : ∀ c ∈ l, goodB c = true) (m : Int) (w : World) (hT : Lib.Utf8Tabs 1 2 w) (hm : w.cell? ⟨0, 0, none⟩ = some (.int .i64 m)) (h0 : 0 < w.heap.size) :
    Calls Tryz.prog 26 #[.string (nameOf l), .pointer none] w (ParseIs w (opqP blobL (nullL l))) :=
  parse_is _ _ (nameOf l) m w hT hm h0 (by rw [nameOf_size l hl]; decide) (nameOf_text l) (by decide) (null_rest hg)
/-- The same, with a fragment of one sign. -/
def fragOf (l : List UInt8) (c : UInt8) : ByteArray := nameOf l ++ ⟨#[35, c]⟩
theorem parse_frag (l : List UInt8) (c : UInt8) (hc : Ink [c]) (hl : l.length = 36) (hg : ∀ c ∈ l, goodB c = true) (m : Int) (w : World) (hT : Lib.Utf8Tabs 1 2 w) (hm : w.cell? ⟨0, 0, none⟩ = some (.int .i64 m)) (h0 : 0 < w.heap.size) :
    Calls Tryz.prog 26 #[.string (fragOf l c), .pointer none] w (ParseIs w (opqPF blobL (nullL l) [c])) := by
  have hs : (fragOf l c).size = 48 := by
    unfold fragOf
    rw [ByteArray.size_append, nameOf_size l hl]; rfl
  refine (parse_opq blobL (nullL l) [c] true (fragOf l c) m w hT hm h0 (by rw [hs]; decide) ?_ (fun h => by cases h) (by decide) (null_rest hg) hc).mono ?_
  · simp [fragOf, ByteArray.data_append, opqText, nameOf, bstr, blobNull, blobL, nullL]
  · rintro e w' ⟨pa, pn, pc, he, hb⟩
    exact ⟨pa, pn, pc, he, hb⟩
theorem bare_any (p : PSt) (l : List UInt8) (hl : l.length = 36) (hsch : p.sch = bstr blobL) (htext : p.text = bstr (nullL l)) (hh : p.hasHost = false) (ho : p.opq = true) (hq : p.hasQ = false) (hqq : p.query = ⟨#[]⟩) (pa : Option Addr) (pn pc : Nat) (W : World) :
    Calls Tryz.prog 37 #[.agg (PSt.url { p with path := .slice pa pn pc })] W fun e w' => e = .returned (.string (nameOf l)) ∧ Below W.heap.size W w' := by
  have hz : (bstr (nullL l)).size = 41 := by show (nullL l).toArray.size = _; simp [nullL, hl]
  refine (bare_opq { p with path := .slice pa pn pc } pa pn pc rfl hh ho W (by simp only [hsch]; decide) (by simp only [htext, hz]; decide) (by simp only [hqq]; decide)).mono ?_
  rintro e w' ⟨rfl, hb⟩
  refine ⟨ret_s ?_, hb⟩
  simp only [bareOpq, queryS, hsch, htext, hq]
  simp [bstr, nameOf, blobNull, blobL, nullL]
theorem bare_name (l : List UInt8) (hl : l.length = 36) (pa : Option Addr) (pn pc : Nat) (W : World) :
    Calls Tryz.prog 37 #[.agg (PSt.url { opqP blobL (nullL l) with path := .slice pa pn pc })] W fun e w' => e = .returned (.string (nameOf l)) ∧ Below W.heap.size W w' :=
  bare_any _ l hl rfl rfl rfl rfl rfl rfl pa pn pc W
theorem bare_frag (l : List UInt8) (c : UInt8) (hl : l.length = 36) (pa : Option Addr) (pn pc : Nat) (W : World) :
    Calls Tryz.prog 37 #[.agg (PSt.url { opqPF blobL (nullL l) [c] with path := .slice pa pn pc })] W fun e w' => e = .returned (.string (nameOf l)) ∧ Below W.heap.size W w' :=
  bare_any _ l hl rfl rfl rfl rfl rfl rfl pa pn pc W
theorem conv_src {w : World} {a : Option Addr} {cap : Nat} {l : List UInt8} (h : SrcAt w a cap l) :
    (convert 29 9 (.slice a l.length cap)).run Tryz.prog w = .ok (.string ⟨l.toArray⟩) w := by
  rcases h with ⟨rfl, rfl, rfl⟩ | ⟨b, off, rfl, hby, hb⟩
  · exact run_convert_bytes_nil (P := Tryz.prog) w 29 5 Tryz.underlying29 Tryz.underlying5 0 0 9 Tryz.underlying9
  · have := run_convert_bytes_arg (P := Tryz.prog) w 29 5 Tryz.underlying29 Tryz.underlying5 b off l.length cap (l.map fun b => ((b.toNat : Nat) : Int)) (by simp) (fun i hi => by
      rw [hby i hi]
      simp [List.getD_eq_getElem?_getD, List.getElem?_eq_getElem hi]) 9 Tryz.underlying9
    rw [this]
    have hc : (l.map fun b => UInt8.ofNat (((b.toNat : Nat) : Int)).toNat) = l := by
      conv => rhs; rw [← List.map_id l]
      refine List.map_congr_left fun b _ => ?_
      simp
    simp [strOfNums]
    exact hc
theorem find_one (en : SEnt) (on : Int) (hn : en.nonce = on) : findS [en] en.url on = some en.blk := by
  have h : bEq en.url en.url = true := by simp [bEq]
  unfold findS getS
  simp [h, hn]
theorem find_nil (u : ByteArray) (on : Int) : findS [] u on = none := rfl
theorem own_nil (u : ByteArray) (on : Int) : ownI [] u on < 0 := by unfold ownI getS; simp
end Go.Proofs.YtibgiohijknmbaaGreatDoor

/-
  (*Stack).Fetch of a registered URL, and of one that is gone.
-/
namespace Go.Proofs.YtibgiohijknmbaaGreatDoor
open Go.RowKit
set_option linter.unusedVariables false
set_option linter.unusedSimpArgs false

set_option maxRecDepth 100000 in
theorem fetch_found (B s tb sb mb : Nat) (most room : Int) (en : SEnt) (l : List UInt8) (bb : List UInt8) (kk : ByteArray) (oh : ByteArray) (op on m : Int) (w : World) (hl : l.length = 36) (hg : ∀ c ∈ l, goodB c = true)
    (hS : StackAt w B s tb sb mb most) (hSt : StoreAt w B sb [en] room) (hurl : en.url = nameOf l) (hsch : en.sch = ⟨#[]⟩) (hon : en.nonce = on) (hbl : BlobAt w B en.blk bb kk) (hbb : bb.length ≤ 1048576)
    (hT : Lib.Utf8Tabs 1 2 w) (hm : w.cell? ⟨0, 0, none⟩ = some (.int .i64 m)) (h0 : 0 < w.heap.size) :
    Calls Tryz.prog 18 #[.pointer (some ⟨s, 0, none⟩), .string (nameOf l), .agg (oriV ⟨#[]⟩ oh op on), .pointer none] w (AnsIs 200 0 (bb.length : Int) kk bb w) :=
  sfetch_own (some ⟨s, 0, none⟩) (nameOf l) ⟨#[]⟩ oh op on none 200 0 _ kk bb w fun W hb =>
    fetch_blob (some ⟨s, 0, none⟩) en.blk (nameOf l) ⟨#[]⟩ oh op on none (opqP blobL (nullL l)) 200 0 _ kk bb W
      (fun X hX => parse_name l hl hg m X (utf8tabs_below hT (hb.trans (hX.mono hb.size))) (((hb.trans (hX.mono hb.size)).cell (p := ⟨0, 0, none⟩) h0).trans hm) (Nat.lt_of_lt_of_le h0 (hb.trans (hX.mono hb.size)).size))
      rfl (fun X => by rfl)
      (fun X pa pn pc hX => by
        have hk := hb.trans (hX.mono hb.size)
        have h := sblob_c B s tb sb mb most room [en] (bstr blobL) ⟨#[]⟩ ⟨#[]⟩ ⟨#[]⟩ false (-1) true (bstr (nullL l)) pa pn pc false false ⟨#[]⟩ ⟨#[]⟩ en.url oh op on X (hS.later hk) (hSt.later hk) (fun e he => by rw [List.mem_singleton] at he; rw [he]; exact hsch) (fun Y => by rw [hurl]; exact bare_name l hl pa pn pc Y)
        rw [find_one en on hon] at h
        exact h)
      (fun X hX => by
        have hk := hb.trans (hX.mono hb.size)
        exact fbytes_nil B en.blk bb kk 1 X (hbl.later hk) hbb)
set_option maxRecDepth 100000 in
theorem fetch_gone (B s tb sb mb : Nat) (most room : Int) (l : List UInt8) (oh : ByteArray) (op on m : Int) (w : World) (hl : l.length = 36) (hg : ∀ c ∈ l, goodB c = true)
    (hS : StackAt w B s tb sb mb most) (hSt : StoreAt w B sb [] room)
    (hT : Lib.Utf8Tabs 1 2 w) (hm : w.cell? ⟨0, 0, none⟩ = some (.int .i64 m)) (h0 : 0 < w.heap.size) :
    Calls Tryz.prog 18 #[.pointer (some ⟨s, 0, none⟩), .string (nameOf l), .agg (oriV ⟨#[]⟩ oh op on), .pointer none] w fun e w' => e = .returned (.agg (ansV 1 0 0 0 ⟨#[]⟩ (.slice none 0 0))) ∧ Below w.heap.size w w' :=
  sfetch_c (some ⟨s, 0, none⟩) (nameOf l) ⟨#[]⟩ oh op on none 1 0 0 0 ⟨#[]⟩ none 0 0 w fun W hb =>
    fetch_noblob (some ⟨s, 0, none⟩) (nameOf l) ⟨#[]⟩ oh op on none (opqP blobL (nullL l)) W
      (fun X hX => parse_name l hl hg m X (utf8tabs_below hT (hb.trans (hX.mono hb.size))) (((hb.trans (hX.mono hb.size)).cell (p := ⟨0, 0, none⟩) h0).trans hm) (Nat.lt_of_lt_of_le h0 (hb.trans (hX.mono hb.size)).size))
      rfl (fun X => by rfl)
      (fun X pa pn pc hX => by
        have hk := hb.trans (hX.mono hb.size)
        have h := sblob_c B s tb sb mb most room [] (bstr blobL) ⟨#[]⟩ ⟨#[]⟩ ⟨#[]⟩ false (-1) true (bstr (nullL l)) pa pn pc false false ⟨#[]⟩ ⟨#[]⟩ (nameOf l) oh op on X (hS.later hk) (hSt.later hk) (fun e he => absurd he (List.not_mem_nil)) (fun Y => bare_name l hl pa pn pc Y)
        exact h.mono fun e w' ⟨he, hb⟩ => ⟨none, he, hb⟩)
end Go.Proofs.YtibgiohijknmbaaGreatDoor
