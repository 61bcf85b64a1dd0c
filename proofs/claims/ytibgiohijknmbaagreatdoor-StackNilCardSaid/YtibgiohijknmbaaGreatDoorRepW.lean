/-
  (*strings.Replacer).Replace on a replacer that has not been built yet.
-/
import Derived.Test.YtibgiohijknmbaaGreatDoorRepR
namespace Go.Proofs.YtibgiohijknmbaaGreatDoor
open Go.RowKit
set_option linter.unusedVariables false
set_option linter.unusedSimpArgs false

set_option maxRecDepth 100000 in
set_option maxHeartbeats 2000000 in
theorem replacer_c (ps : Pairs) (R : Nat) (s : ByteArray) (w : World) (hm : 2 ≤ ps.length) (hm2 : ps.length ≤ 256) (hnot : ∃ i, i < ps.length ∧ (ps.getD i (0, [])).2.length ≠ 1) (hnd : (ps.map (·.1)).Nodup) (hlong : ∀ p ∈ ps, p.2.length ≤ 1000) (hs : s.size ≤ 4294967296) (h : RawAt w R 0 ps) :
    Calls Tryz.prog 99 #[.pointer (some ⟨R, 0, none⟩), .string s] w fun e w' => e = .returned (.string ⟨(repL ps s.data.toList).toArray⟩) ∧ w.grownBy w' (some R) := by
  obtain ⟨g, c, hR, hc, hst, hg, hgR⟩ := h
  have hRlt : R < w.heap.size := (Array.getElem?_eq_some_iff.1 hR).1
  have c0 : w.cell? ⟨R, 0, none⟩ = some (.int .u32 0) := by rw [Lib.cell_of_heap hR]; rfl
  have c1 : w.cell? ⟨R, 1, none⟩ = some (.int .i32 0) := by rw [Lib.cell_of_heap hR]; rfl
  have f0 : w.frozen? ⟨R, 0, none⟩ = false := Lib.frozen_of_heap hR 0
  have f1 : w.frozen? ⟨R, 1, none⟩ = false := Lib.frozen_of_heap hR 1
  have hR1 : (w.setCell ⟨R, 1, none⟩ (.int .i32 1)).heap[R]? = some (.cells #[.int .u32 0, .int .i32 1, .int .u32 0, .nilIface, .slice (some ⟨g, 0, none⟩) (2 * ps.length) c] 234 (0, 0)) := by
    have := heap_setCell_same w R 1 _ 234 (.int .i32 1) hR
    simpa using this
  have hraw : RawAt (w.setCell ⟨R, 1, none⟩ (.int .i32 1)) R 1 ps := ⟨g, c, hR1, hc, fun j hj => by
    rw [World.cell?_setCell_other _ _ _ _ (by intro h; injection h; omega)]
    exact hst j hj, by rw [World.size_setCell]; exact hg, hgR⟩
  have hb := buildonce_c ps R _ hm hm2 hnot hnd hlong hraw
  have hdo := o_do R _ (fun w2 => ∃ Q, w2.heap[R]? = some (.cells #[.int .u32 0, .int .i32 1, .int .u32 0, .iface 306 (.pointer (some ⟨Q, 0, none⟩)), .slice none 0 0] 234 (0, 0)) ∧ RepAt w2 w.heap.size Q ps ∧ (w.setCell ⟨R, 1, none⟩ (.int .i32 1)).grownBy w2 (some R)) w rfl c0 c1 f0 f1 (hb.mono fun e w2 ⟨he, Q, q1, q2, q3⟩ => ⟨he, ⟨by rw [Lib.cell_of_heap q1]; rfl, by rw [Lib.cell_of_heap q1]; rfl, Lib.frozen_of_heap q1 0, Lib.frozen_of_heap q1 1⟩, Q, q1, by rwa [World.size_setCell] at q2, q3⟩)
  clear hb hraw hR1 hst
  go_enter Tryz.func99, Tryz.ntmps99
  go_wp2_with (go_at_call 157; refine hdo.mono ?_)
  rintro e w1 ⟨rfl, w2, ⟨Q, q1, q2, q3⟩, rfl⟩
  have hE : (onceEnd R w2).heap[R]? = some (.cells #[.int .u32 1, .int .i32 0, .int .u32 0, .iface 306 (.pointer (some ⟨Q, 0, none⟩)), .slice none 0 0] 234 (0, 0)) := by
    unfold onceEnd
    have q1' : w2.drew.heap[R]? = some (.cells #[.int .u32 0, .int .i32 1, .int .u32 0, .iface 306 (.pointer (some ⟨Q, 0, none⟩)), .slice none 0 0] 234 (0, 0)) := q1
    have := heap_setCell_same _ R 1 _ 234 (.int .i32 0) (heap_setCell_same w2.drew R 0 _ 234 (.int .u32 1) q1')
    simpa using this
  have hrep : RepAt (onceEnd R w2) w.heap.size Q ps := q2.move fun k cells T fz hk hT => by
    have hkR : k ≠ R := by
      rintro rfl
      rw [q1] at hk
      injection hk with hk
      injection hk with _ ht
      exact hT ht.symm
    unfold onceEnd
    rw [heap_setCell_other _ _ _ _ hkR, heap_setCell_other _ _ _ _ hkR]
    rfl
  have hgr : w.grownBy (onceEnd R w2) (some R) := by
    refine ⟨q3.os, q3.tape, q3.output, ?_, fun k hk hne => ?_⟩
    · have h1 := q3.size
      rw [World.size_setCell] at h1
      unfold onceEnd
      rw [World.size_setCell, World.size_setCell]
      exact h1
    · have hkR : k ≠ R := fun h => hne (by rw [h])
      unfold onceEnd
      rw [heap_setCell_other _ _ _ _ hkR, heap_setCell_other _ _ _ _ hkR]
      exact (q3.block k (by rw [World.size_setCell]; exact hk) hne).trans (heap_setCell_other _ _ _ _ hkR)
  generalize onceEnd R w2 = w3 at *
  have c3 : w3.cell? ⟨R, 3, none⟩ = some (.iface 306 (.pointer (some ⟨Q, 0, none⟩))) := by rw [Lib.cell_of_heap hE]; rfl
  clear q1 q2 q3 hdo hR c0 c1 f0 f1
  have hmeth : ∀ (a : Addr) (w : World), (method 529 306 (.pointer (some a)) "Replace").run Tryz.prog w = .ok (421, .pointer (some a)) w := fun a w => by kernel_rfl
  go_wp2_with (go_at_call 421; refine (replace_c ps w.heap.size Q s w3 (by intro h; rw [h] at hm; simp at hm) hm2 hnd hlong hs hrep).mono ?_; rintro e w4 ⟨rfl, hbl4⟩)
  go_ret
  exact ⟨rfl, hgr.trans ⟨hbl4.os, hbl4.tape, hbl4.output, hbl4.size, fun k hk _ => hbl4.block k hk⟩⟩
end Go.Proofs.YtibgiohijknmbaaGreatDoor
