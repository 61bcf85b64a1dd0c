/-
  carryalllaw27.StackNil: its walk.
-/
import Derived.Test.YtibgiohijknmbaaGreatDoorNilF
namespace Go.Proofs.YtibgiohijknmbaaGreatDoor
open Go.RowKit
set_option linter.unusedVariables false
set_option linter.unusedSimpArgs false

/-- The world in the middle of the law: the origin's box. -/
structure LInv (m : Int) (os oh : ByteArray) (op on : Int) (w W : World) : Prop where
  box : W.heap[w.heap.size]? = some (.cells (oriV os oh op on) 23 (0, 0))
  bel : Below w.heap.size w W
  tab : Lib.Utf8Tabs 1 2 W
  max : W.cell? ⟨0, 0, none⟩ = some (.int .i64 m)
  pos : 0 < W.heap.size
theorem LInv.below {m : Int} {os oh : ByteArray} {op on : Int} {w W W' : World} (h : LInv m os oh op on w W) (k : Below W.heap.size W W') : LInv m os oh op on w W' :=
  ⟨(k.block _ (Array.getElem?_eq_some_iff.1 h.box).1).trans h.box, h.bel.trans (k.mono h.bel.size), utf8tabs_below h.tab k, (k.cell (p := ⟨0, 0, none⟩) h.pos).trans h.max, Nat.lt_of_lt_of_le h.pos k.size⟩
theorem LInv.c0 {m : Int} {os oh : ByteArray} {op on : Int} {w W : World} (h : LInv m os oh op on w W) : W.cell? ⟨w.heap.size, 0, none⟩ = some (.string os) := Lib.cell_of_heap h.box 0
theorem LInv.c1 {m : Int} {os oh : ByteArray} {op on : Int} {w W : World} (h : LInv m os oh op on w W) : W.cell? ⟨w.heap.size, 1, none⟩ = some (.string oh) := Lib.cell_of_heap h.box 1
theorem LInv.c2 {m : Int} {os oh : ByteArray} {op on : Int} {w W : World} (h : LInv m os oh op on w W) : W.cell? ⟨w.heap.size, 2, none⟩ = some (.int .i64 op) := Lib.cell_of_heap h.box 2
theorem LInv.c3 {m : Int} {os oh : ByteArray} {op on : Int} {w W : World} (h : LInv m os oh op on w W) : W.cell? ⟨w.heap.size, 3, none⟩ = some (.int .i64 on) := Lib.cell_of_heap h.box 3

theorem field_status (a b c d : Int) (k : ByteArray) (ba : Option Addr) (bn bc : Nat) (W : World) : (Instr.field 47 (.agg (ansV a b c d k (.slice ba bn bc))) 1).run Tryz.prog W = .ok (.int .i64 b) W := by kernel_rfl
set_option maxRecDepth 100000 in
set_option maxHeartbeats 1000000 in
theorem stacknil_c (h : Int) (name os oh : ByteArray) (op on m : Int) (w : World) (hT : Lib.Utf8Tabs 1 2 w) (hm : w.cell? ⟨0, 0, none⟩ = some (.int .i64 m)) (h0 : 0 < w.heap.size) :
    Calls Tryz.prog 3 #[.int .i64 h, .string name, .agg (oriV os oh op on)] w fun e w' => e = .returned (.bool true) ∧ Below w.heap.size w w' := by
  have hb0 : Below w.heap.size w (w.alloc (.cells (oriV os oh op on) 23)) := (Below.refl _ _).alloc (Nat.le_refl _) _
  have I0 : LInv m os oh op on w (w.alloc (.cells (oriV os oh op on) 23)) := ⟨heap_last _ _, hb0, utf8tabs_below hT hb0, (hb0.cell (p := ⟨0, 0, none⟩) h0).trans hm, by simp⟩
  have hW : w.alloc (.cells (oriV os oh op on) 23) = w.alloc (.cells #[.string os, .string oh, .int .i64 op, .int .i64 on] 23) := rfl
  rw [hW] at I0
  clear hb0 hT hm hW
  have hcv := fun (W : World) => Lib.run_convert_bytes_const (P := Tryz.prog) W 29 5 #[.int .u8 97] 1 1 Tryz.underlying29 Tryz.underlying5
  have hf1 := fun W => field_status 3 200 0 0 nothingS none 0 0 W
  have hf2 := fun W => field_status 1 0 0 0 ⟨#[]⟩ none 0 0 W
  unfold ansV at hf1 hf2
  unfold oriV
  by_cases hlen : 500 < name.size
  · have HL1 : ¬ (name.size : Int) ≤ 500 := by omega
    have HL2 : 500 < (name.size : Int) := by omega
    go_enter Tryz.func3, Tryz.ntmps3
    go_wp2_with fail
    generalize w.alloc (.cells #[.string os, .string oh, .int .i64 op, .int .i64 on] 23) = W0 at *
    refine (awake_c m _ I0.max I0.pos).mono ?_
    rintro e w1 ⟨rfl, hb1⟩
    have I1 := I0.below hb1
    go_wp2_with fail
    refine (awake_c m _ I1.max I1.pos).mono ?_
    rintro e w2 ⟨rfl, hb2⟩
    have I2 := I1.below hb2
    go_wp2_with fail
    go_ret
    exact ⟨rfl, I2.bel⟩
  · have HL1 : (name.size : Int) ≤ 500 := by omega
    have HL2 : ¬ 500 < (name.size : Int) := by omega
    clear hlen
    go_enter Tryz.func3, Tryz.ntmps3
    go_wp2_with fail
    generalize w.alloc (.cells #[.string os, .string oh, .int .i64 op, .int .i64 on] 23) = W0 at *
    refine (awake_c m _ I0.max I0.pos).mono ?_
    rintro e w1 ⟨rfl, hb1⟩
    have I1 := I0.below hb1
    clear I0 hb1
    go_wp2_with fail
    have I1' := I1.below (W' := w1.alloc (.cells #[.int .u8 97] 5 (1, 2))) ((Below.refl _ _).alloc (Nat.le_refl _) _)
    generalize w1.alloc (.cells #[.int .u8 97] 5 (1, 2)) = W1 at *
    refine (create_nil _ _ _).mono ?_
    rintro e w2 ⟨rfl, hb⟩
    have I2 := I1'.below hb
    clear I1' hb
    clear hcv I1
    have k0 := I2.c0
    have k1 := I2.c1
    have k2 := I2.c2
    have k3 := I2.c3
    go_wp2_with fail
    clear k0 k1 k2 k3
    refine (slice_nil h none none _ _).mono ?_
    rintro e w3 ⟨rfl, hb⟩
    have I3 := I2.below hb
    clear I2 hb
    have k0 := I3.c0
    have k1 := I3.c1
    have k2 := I3.c2
    have k3 := I3.c3
    go_wp2_with fail
    clear k0 k1 k2 k3
    refine (register_nil os oh op on h _ _).mono ?_
    rintro e w4 ⟨rfl, hb⟩
    have I4 := I3.below hb
    clear I3 hb
    have k0 := I4.c0
    have k1 := I4.c1
    have k2 := I4.c2
    have k3 := I4.c3
    go_wp2_with fail
    clear k0 k1 k2 k3
    refine (notice_nil _).mono ?_
    rintro e w5 ⟨rfl, hb⟩
    have I5 := I4.below hb
    clear I4 hb
    have k0 := I5.c0
    have k1 := I5.c1
    have k2 := I5.c2
    have k3 := I5.c3
    go_wp2_with fail
    clear k0 k1 k2 k3
    refine (blob_nil _ _ _ _ _ _ _ _ _ _ _ _ _ _ _ os oh op on _).mono ?_
    rintro e w6 ⟨rfl, hb⟩
    have I6 := I5.below hb
    clear I5 hb
    have k0 := I6.c0
    have k1 := I6.c1
    have k2 := I6.c2
    have k3 := I6.c3
    go_wp2_with fail
    clear k0 k1 k2 k3
    refine (forget_nil h _).mono ?_
    rintro e w7 ⟨rfl, hb⟩
    have I7 := I6.below hb
    clear I6 hb
    have k0 := I7.c0
    have k1 := I7.c1
    have k2 := I7.c2
    have k3 := I7.c3
    go_wp2_with fail
    clear k0 k1 k2 k3
    refine (revoke_nil name os oh op on _).mono ?_
    rintro e w8 ⟨rfl, hb⟩
    have I8 := I7.below hb
    clear I7 hb
    have k0 := I8.c0
    have k1 := I8.c1
    have k2 := I8.c2
    have k3 := I8.c3
    go_wp2_with fail
    clear k0 k1 k2 k3
    refine (bytes_nil _).mono ?_
    rintro e w9 ⟨rfl, hb⟩
    have I9 := I8.below hb
    clear I8 hb
    have k0 := I9.c0
    have k1 := I9.c1
    have k2 := I9.c2
    have k3 := I9.c3
    go_wp2_with fail
    clear k0 k1 k2 k3
    refine (urls_nil _).mono ?_
    rintro e w10 ⟨rfl, hb⟩
    have I10 := I9.below hb
    clear I9 hb
    have k0 := I10.c0
    have k1 := I10.c1
    have k2 := I10.c2
    have k3 := I10.c3
    go_wp2_with fail
    clear k0 k1 k2 k3
    refine (nilfetch_about os oh op on m _ I10.tab I10.max I10.pos).mono ?_
    rintro e w11 ⟨rfl, hb⟩
    have I11 := I10.below hb
    clear I10 hb
    unfold ansV
    have k0 := I11.c0
    have k1 := I11.c1
    have k2 := I11.c2
    have k3 := I11.c3
    go_wp2_with fail
    clear k0 k1 k2 k3
    refine (nilfetch_blob os oh op on m _ I11.tab I11.max I11.pos).mono ?_
    rintro e w12 ⟨rfl, hb⟩
    have I12 := I11.below hb
    clear I11 hb
    unfold ansV
    have k0 := I12.c0
    have k1 := I12.c1
    have k2 := I12.c2
    have k3 := I12.c3
    go_wp2_with fail
    clear k0 k1 k2 k3
    go_ret
    exact ⟨rfl, I12.bel⟩
end Go.Proofs.YtibgiohijknmbaaGreatDoor
