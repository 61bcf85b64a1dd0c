/-
  Joined texts: Nil, SFetch, NilF, LawNil, Row, Closed, RowGoe2, Org, Sto, Sto2, Ident, Ident2.
-/
import Derived.Test.YtibgiohijknmbaaGreatDoorM7
import Derived.Test.YtibgiohijknmbaaGreatDoorM6
import Derived.Test.YtibgiohijknmbaaGreatDoorRows
import Derived.ChangeSame
import Derived.ChangeVars
import Derived.JoinedOf
import Derived.RowKit
import Derived.RowKitTokens
import Derived.LaidLaws
import Derived.LaidHandle
import Derived.Lib.LaidU8T
import Derived.Lay
import Derived.MakeChecks
import Derived.HandedShaped
import Derived.Carry
import Derived.OpenShut
import Derived.ShutString
import Derived.Shelf.Vars
import Derived.ChangeMaps5
import Derived.SevenTiedAt
import Derived.Test.YtibgiohijknmbaaGreatDoorM5
import Derived.Test.YtibgiohijknmbaaGreatDoorM1
import Derived.Test.YtibgiohijknmbaaGreatDoorM4
import Derived.Deep.RegionLaw
import Derived.Deep.AppendLies
/-
  A nil stack: its methods.
-/
namespace Go.Proofs.YtibgiohijknmbaaGreatDoor
open Go.RowKit
set_option linter.unusedVariables false
set_option linter.unusedSimpArgs false

theorem create_nil (v : Value) (q : ByteArray) (w : World) :
    Calls Tryz.prog 9 #[.pointer none, v, .string q] w fun e w' => e = .returned (.tuple #[.int .i64 0, .int .i64 1]) ∧ Below w.heap.size w w' := by
  go_enter Tryz.func9, Tryz.ntmps9
  go_wp2_with fail
  go_ret2
  exact ⟨rfl, Below.refl _ _⟩
theorem slice_nil (h : Int) (a b : Option Addr) (q : ByteArray) (w : World) :
    Calls Tryz.prog 10 #[.pointer none, .int .i64 h, .pointer a, .pointer b, .string q] w fun e w' => e = .returned (.tuple #[.int .i64 0, .int .i64 1]) ∧ Below w.heap.size w w' := by
  go_enter Tryz.func10, Tryz.ntmps10
  go_wp2_with fail
  go_ret2
  exact ⟨rfl, Below.refl _ _⟩
theorem register_nil (os oh : ByteArray) (op on h : Int) (w : World) (r : Array Value) :
    Calls Tryz.prog 11 #[.pointer none, .agg (oriV os oh op on), .int .i64 h, .agg r] w fun e w' => e = .returned (.tuple #[.string ⟨#[]⟩, .int .i64 1]) ∧ Below w.heap.size w w' := by
  unfold oriV
  go_enter Tryz.func11, Tryz.ntmps11
  go_wp2_with fail
  go_ret2
  exact ⟨rfl, ((Below.refl _ _).alloc (Nat.le_refl _) _).alloc (by simp) _⟩
theorem notice_nil (w : World) :
    Calls Tryz.prog 12 #[.pointer none] w fun e w' => e = .returned (.tuple #[.string ⟨#[]⟩, .bool false]) ∧ Below w.heap.size w w' := by
  go_enter Tryz.func12, Tryz.ntmps12
  go_wp2_with fail
  go_ret2
  exact ⟨rfl, Below.refl _ _⟩
theorem blob_nil (a b c d : ByteArray) (hh : Bool) (po : Int) (oq : Bool) (t : ByteArray) (pa : Option Addr) (pn pc : Nat) (hq hf : Bool) (qu fr : ByteArray) (os oh : ByteArray) (op on : Int) (w : World) :
    Calls Tryz.prog 13 #[.pointer none, .agg #[.string a, .string b, .string c, .string d, .bool hh, .int .i64 po, .bool oq, .string t, .slice pa pn pc, .bool hq, .bool hf, .string qu, .string fr], .agg (oriV os oh op on)] w
      fun e w' => e = .returned (.tuple #[.pointer none, .bool false]) ∧ Below w.heap.size w w' := by
  unfold oriV
  go_enter Tryz.func13, Tryz.ntmps13
  go_wp2_with fail
  go_ret2
  exact ⟨rfl, ((Below.refl _ _).alloc (Nat.le_refl _) _).alloc (by simp) _⟩
theorem forget_nil (h : Int) (w : World) :
    Calls Tryz.prog 14 #[.pointer none, .int .i64 h] w fun e w' => e = .returned (.bool false) ∧ Below w.heap.size w w' := by
  go_enter Tryz.func14, Tryz.ntmps14
  go_wp2_with fail
  go_ret
  exact ⟨rfl, Below.refl _ _⟩
theorem revoke_nil (s os oh : ByteArray) (op on : Int) (w : World) :
    Calls Tryz.prog 15 #[.pointer none, .string s, .agg (oriV os oh op on)] w fun e w' => e = .returned (.bool false) ∧ Below w.heap.size w w' := by
  unfold oriV
  go_enter Tryz.func15, Tryz.ntmps15
  go_wp2_with fail
  go_ret
  exact ⟨rfl, (Below.refl _ _).alloc (Nat.le_refl _) _⟩
theorem bytes_nil (w : World) :
    Calls Tryz.prog 16 #[.pointer none] w fun e w' => e = .returned (.int .i64 0) ∧ Below w.heap.size w w' := by
  go_enter Tryz.func16, Tryz.ntmps16
  go_wp2_with fail
  go_ret
  exact ⟨rfl, Below.refl _ _⟩
theorem urls_nil (w : World) :
    Calls Tryz.prog 17 #[.pointer none] w fun e w' => e = .returned (.slice none 0 0) ∧ Below w.heap.size w w' := by
  go_enter Tryz.func17, Tryz.ntmps17
  go_wp2_with fail
  go_ret
  exact ⟨rfl, Below.refl _ _⟩
end Go.Proofs.YtibgiohijknmbaaGreatDoor

/-
  (*Stack).Fetch; on a nil stack: of about:blank and of blob:null/x.
-/
namespace Go.Proofs.YtibgiohijknmbaaGreatDoor
open Go.RowKit
set_option linter.unusedVariables false
set_option linter.unusedSimpArgs false

set_option maxRecDepth 100000 in
set_option maxHeartbeats 1000000 in
theorem sfetch_c (sp : Option Addr) (s os oh : ByteArray) (op on : Int) (tp : Option Addr) (a b c d : Int) (k : ByteArray) (ba : Option Addr) (bn bc : Nat) (w : World)
    (hF : ∀ W, Below w.heap.size w W → Calls Tryz.prog 25 #[.iface 25 (.pointer sp), .string s, .agg (oriV os oh op on), .pointer tp] W fun e w' => e = .returned (.agg (ansV a b c d k (.slice ba bn bc))) ∧ Below W.heap.size W w') :
    Calls Tryz.prog 18 #[.pointer sp, .string s, .agg (oriV os oh op on), .pointer tp] w fun e w' => e = .returned (.agg (ansV a b c d k (.slice ba bn bc))) ∧ Below w.heap.size w w' := by
  have hb0 : Below w.heap.size w ((w.alloc (.cells (oriV os oh op on) 23)).alloc (.cells ans0 47)) := ((Below.refl _ _).alloc (Nat.le_refl _) _).alloc (by simp) _
  have hF0 := hF _ hb0
  have hr0 : ((w.alloc (.cells (oriV os oh op on) 23)).alloc (.cells ans0 47)).heap[w.heap.size + 1]? = some (.cells ans0 47 (0, 0)) := by
    have := heap_last (w.alloc (.cells (oriV os oh op on) 23)) (.cells ans0 47)
    rw [show (w.alloc (.cells (oriV os oh op on) 23)).heap.size = w.heap.size + 1 by simp] at this
    exact this
  have ho0 : ((w.alloc (.cells (oriV os oh op on) 23)).alloc (.cells ans0 47)).heap[w.heap.size]? = some (.cells (oriV os oh op on) 23 (0, 0)) := by
    rw [Below.heap_alloc _ _ _ (by simp)]
    exact heap_last _ _
  have hsz : ((w.alloc (.cells (oriV os oh op on) 23)).alloc (.cells ans0 47)).heap.size = w.heap.size + 2 := by simp
  clear hF
  obtain ⟨W0, hW0⟩ : ∃ W, W = (w.alloc (.cells (oriV os oh op on) 23)).alloc (.cells ans0 47) := ⟨_, rfl⟩
  rw [← hW0] at hF0 hb0 hr0 hsz ho0
  have HW : Hid (((w.alloc (.cells #[.string os, .string oh, .int .i64 op, .int .i64 on] 23)).alloc (.cells #[.int .i64 0, .int .i64 0, .int .i64 0, .int .i64 0, .string ⟨#[]⟩, .slice none 0 0] 47)) = W0) := Lib.hid hW0.symm
  clear hW0
  have c0 : W0.cell? ⟨w.heap.size, 0, none⟩ = some (.string os) := Lib.cell_of_heap ho0 0
  have c1 : W0.cell? ⟨w.heap.size, 1, none⟩ = some (.string oh) := Lib.cell_of_heap ho0 1
  have c2 : W0.cell? ⟨w.heap.size, 2, none⟩ = some (.int .i64 op) := Lib.cell_of_heap ho0 2
  have c3 : W0.cell? ⟨w.heap.size, 3, none⟩ = some (.int .i64 on) := Lib.cell_of_heap ho0 3
  have HR := Lib.hid hr0
  have HSZ := Lib.hid hsz
  clear ho0 hr0 hsz
  unfold oriV at hF0 ⊢
  go_enter Tryz.func18, Tryz.ntmps18
  go_wp2_with (rw [HW.out])
  refine hF0.mono ?_
  rintro e w2 ⟨rfl, hb2⟩
  have hs2 := HSZ.out
  have hr2 := (hb2.block (w.heap.size + 1) (by omega)).trans HR.out
  have hB2 := hb0.trans (hb2.mono hb0.size)
  have r0 : w2.cell? ⟨w.heap.size + 1, 0, none⟩ = some (.int .i64 0) := Lib.cell_of_heap hr2 0
  have r1 : w2.cell? ⟨w.heap.size + 1, 1, none⟩ = some (.int .i64 0) := Lib.cell_of_heap hr2 1
  have r2 : w2.cell? ⟨w.heap.size + 1, 2, none⟩ = some (.int .i64 0) := Lib.cell_of_heap hr2 2
  have r3 : w2.cell? ⟨w.heap.size + 1, 3, none⟩ = some (.int .i64 0) := Lib.cell_of_heap hr2 3
  have r4 : w2.cell? ⟨w.heap.size + 1, 4, none⟩ = some (.string ⟨#[]⟩) := Lib.cell_of_heap hr2 4
  have r5 : w2.cell? ⟨w.heap.size + 1, 5, none⟩ = some (.slice none 0 0) := Lib.cell_of_heap hr2 5
  have rz := fun j => frozen_of_row w2 (w.heap.size + 1) j _ _ hr2
  have hlt2 : w.heap.size + 1 < w2.heap.size := by have := hb2.size; omega
  clear hr2 hb2 hF0 c0 c1 c2 c3 HW hs2
  unfold ansV
  go_wp2_with fail
  refine bodyPost_ret (v := .agg #[.int .i64 a, .int .i64 b, .int .i64 c, .int .i64 d, .string k, .slice ba bn bc]) (by simp [results, Tryz.results18, go_sem, r0, r1, r2, r3, r4, r5]) rfl ?_
  refine ⟨rfl, ?_⟩
  iterate 6 refine below_set ?_ _ _ (Nat.le_succ _) _
  exact hB2
end Go.Proofs.YtibgiohijknmbaaGreatDoor

/-
  A nil stack's fetches: about:blank, blob:null/x.
-/
namespace Go.Proofs.YtibgiohijknmbaaGreatDoor
open Go.RowKit
set_option linter.unusedVariables false
set_option linter.unusedSimpArgs false

def opqP (sch rest : List UInt8) : PSt := { pst0 with sch := bstr sch, opq := true, text := bstr rest }
instance (r : List UInt8) : Decidable (RestOk r) := by unfold RestOk; infer_instance
theorem parse_is (sch rest : List UInt8) (s : ByteArray) (m : Int) (w : World) (hT : Lib.Utf8Tabs 1 2 w) (hm : w.cell? ⟨0, 0, none⟩ = some (.int .i64 m)) (h0 : 0 < w.heap.size) (hs : s.size ≤ 65536)
    (hst : s.data.toList = opqText sch rest [] false) (h1 : SchemeOk sch) (h2 : RestOk rest) :
    Calls Tryz.prog 26 #[.string s, .pointer none] w (ParseIs w (opqP sch rest)) :=
  (parse_opq sch rest [] false s m w hT hm h0 hs hst (fun _ => rfl) h1 h2 (by decide)).mono fun e w' ⟨pa, pn, pc, he, hb⟩ => ⟨pa, pn, pc, he, hb⟩

def aboutS : ByteArray := ⟨#[97, 98, 111, 117, 116, 58, 98, 108, 97, 110, 107]⟩
def blobS : ByteArray := ⟨#[98, 108, 111, 98, 58, 110, 117, 108, 108, 47, 120]⟩
theorem nilfetch_about (os oh : ByteArray) (op on : Int) (m : Int) (w : World) (hT : Lib.Utf8Tabs 1 2 w) (hm : w.cell? ⟨0, 0, none⟩ = some (.int .i64 m)) (h0 : 0 < w.heap.size) :
    Calls Tryz.prog 18 #[.pointer none, .string aboutS, .agg (oriV os oh op on), .pointer none] w fun e w' => e = .returned (.agg (ansV 3 200 0 0 nothingS (.slice none 0 0))) ∧ Below w.heap.size w w' :=
  sfetch_c none aboutS os oh op on none 3 200 0 0 nothingS none 0 0 w fun W hb =>
    fetch_plain _ aboutS os oh op on none (opqP [97, 98, 111, 117, 116] [98, 108, 97, 110, 107]) W (fun X hX =>
      parse_is _ _ aboutS m X (utf8tabs_below hT (hb.trans (hX.mono hb.size))) (((hb.trans (hX.mono hb.size)).cell (p := ⟨0, 0, none⟩) h0).trans hm) (Nat.lt_of_lt_of_le h0 (hb.trans (hX.mono hb.size)).size) (by decide) (by decide) (by decide) (by decide)) (by decide)
set_option maxRecDepth 100000 in
theorem nilfetch_blob (os oh : ByteArray) (op on : Int) (m : Int) (w : World) (hT : Lib.Utf8Tabs 1 2 w) (hm : w.cell? ⟨0, 0, none⟩ = some (.int .i64 m)) (h0 : 0 < w.heap.size) :
    Calls Tryz.prog 18 #[.pointer none, .string blobS, .agg (oriV os oh op on), .pointer none] w fun e w' => e = .returned (.agg (ansV 1 0 0 0 ⟨#[]⟩ (.slice none 0 0))) ∧ Below w.heap.size w w' :=
  sfetch_c none blobS os oh op on none 1 0 0 0 ⟨#[]⟩ none 0 0 w fun W hb =>
    fetch_noblob none blobS os oh op on none (opqP [98, 108, 111, 98] [110, 117, 108, 108, 47, 120]) W (fun X hX =>
      parse_is _ _ blobS m X (utf8tabs_below hT (hb.trans (hX.mono hb.size))) (((hb.trans (hX.mono hb.size)).cell (p := ⟨0, 0, none⟩) h0).trans hm) (Nat.lt_of_lt_of_le h0 (hb.trans (hX.mono hb.size)).size) (by decide) (by decide) (by decide) (by decide)) (by decide)
      (fun X => by rfl)
      (fun X pa pn pc hX => (blob_nil _ _ _ _ _ _ _ _ pa pn pc _ _ _ _ os oh op on X).mono fun e w' ⟨he, hb⟩ => ⟨none, he, hb⟩)
end Go.Proofs.YtibgiohijknmbaaGreatDoor

/-
  carryalllaw27.StackNil: its walk.
-/
namespace Go.Proofs.YtibgiohijknmbaaGreatDoor
open Go.RowKit
set_option linter.unusedVariables false
set_option linter.unusedSimpArgs false

/-- The world in the middle of the law: the origin's box. -/
structure LInv (m : Int) (os oh : ByteArray) (op on : Int) (w W : World) : Prop where
  box : W.heap[w.heap.size]? = some (.cells (oriV os oh op on) 23 (0, 0))
  bel : Below w.heap.size w W
  tab : Lib.Utf8Tabs 1 2 W
  max : W.cell? ⟨0, 0, none⟩ = some (.int .i64 m)
  pos : 0 < W.heap.size
theorem LInv.below {m : Int} {os oh : ByteArray} {op on : Int} {w W W' : World} (h : LInv m os oh op on w W) (k : Below W.heap.size W W') : LInv m os oh op on w W' :=
  ⟨(k.block _ (Array.getElem?_eq_some_iff.1 h.box).1).trans h.box, h.bel.trans (k.mono h.bel.size), utf8tabs_below h.tab k, (k.cell (p := ⟨0, 0, none⟩) h.pos).trans h.max, Nat.lt_of_lt_of_le h.pos k.size⟩
theorem LInv.c0 {m : Int} {os oh : ByteArray} {op on : Int} {w W : World} (h : LInv m os oh op on w W) : W.cell? ⟨w.heap.size, 0, none⟩ = some (.string os) := Lib.cell_of_heap h.box 0
theorem LInv.c1 {m : Int} {os oh : ByteArray} {op on : Int} {w W : World} (h : LInv m os oh op on w W) : W.cell? ⟨w.heap.size, 1, none⟩ = some (.string oh) := Lib.cell_of_heap h.box 1
theorem LInv.c2 {m : Int} {os oh : ByteArray} {op on : Int} {w W : World} (h : LInv m os oh op on w W) : W.cell? ⟨w.heap.size, 2, none⟩ = some (.int .i64 op) := Lib.cell_of_heap h.box 2
theorem LInv.c3 {m : Int} {os oh : ByteArray} {op on : Int} {w W : World} (h : LInv m os oh op on w W) : W.cell? ⟨w.heap.size, 3, none⟩ = some (.int .i64 on) := Lib.cell_of_heap h.box 3

theorem field_status (a b c d : Int) (k : ByteArray) (ba : Option Addr) (bn bc : Nat) (W : World) : (Instr.field 47 (.agg (ansV a b c d k (.slice ba bn bc))) 1).run Tryz.prog W = .ok (.int .i64 b) W := by kernel_rfl
set_option maxRecDepth 100000 in
set_option maxHeartbeats 1000000 in
theorem stacknil_c (h : Int) (name os oh : ByteArray) (op on m : Int) (w : World) (hT : Lib.Utf8Tabs 1 2 w) (hm : w.cell? ⟨0, 0, none⟩ = some (.int .i64 m)) (h0 : 0 < w.heap.size) :
    Calls Tryz.prog 3 #[.int .i64 h, .string name, .agg (oriV os oh op on)] w fun e w' => e = .returned (.bool true) ∧ Below w.heap.size w w' := by
  have hb0 : Below w.heap.size w (w.alloc (.cells (oriV os oh op on) 23)) := (Below.refl _ _).alloc (Nat.le_refl _) _
  have I0 : LInv m os oh op on w (w.alloc (.cells (oriV os oh op on) 23)) := ⟨heap_last _ _, hb0, utf8tabs_below hT hb0, (hb0.cell (p := ⟨0, 0, none⟩) h0).trans hm, by simp⟩
  have hW : w.alloc (.cells (oriV os oh op on) 23) = w.alloc (.cells #[.string os, .string oh, .int .i64 op, .int .i64 on] 23) := rfl
  rw [hW] at I0
  clear hb0 hT hm hW
  have hcv := fun (W : World) => Lib.run_convert_bytes_const (P := Tryz.prog) W 29 5 #[.int .u8 97] 1 1 Tryz.underlying29 Tryz.underlying5
  have hf1 := fun W => field_status 3 200 0 0 nothingS none 0 0 W
  have hf2 := fun W => field_status 1 0 0 0 ⟨#[]⟩ none 0 0 W
  unfold ansV at hf1 hf2
  unfold oriV
  by_cases hlen : 500 < name.size
  · have HL1 : ¬ (name.size : Int) ≤ 500 := by omega
    have HL2 : 500 < (name.size : Int) := by omega
    go_enter Tryz.func3, Tryz.ntmps3
    go_wp2_with fail
    generalize w.alloc (.cells #[.string os, .string oh, .int .i64 op, .int .i64 on] 23) = W0 at *
    refine (awake_c m _ I0.max I0.pos).mono ?_
    rintro e w1 ⟨rfl, hb1⟩
    have I1 := I0.below hb1
    go_wp2_with fail
    refine (awake_c m _ I1.max I1.pos).mono ?_
    rintro e w2 ⟨rfl, hb2⟩
    have I2 := I1.below hb2
    go_wp2_with fail
    go_ret
    exact ⟨rfl, I2.bel⟩
  · have HL1 : (name.size : Int) ≤ 500 := by omega
    have HL2 : ¬ 500 < (name.size : Int) := by omega
    clear hlen
    go_enter Tryz.func3, Tryz.ntmps3
    go_wp2_with fail
    generalize w.alloc (.cells #[.string os, .string oh, .int .i64 op, .int .i64 on] 23) = W0 at *
    refine (awake_c m _ I0.max I0.pos).mono ?_
    rintro e w1 ⟨rfl, hb1⟩
    have I1 := I0.below hb1
    clear I0 hb1
    go_wp2_with fail
    have I1' := I1.below (W' := w1.alloc (.cells #[.int .u8 97] 5 (1, 2))) ((Below.refl _ _).alloc (Nat.le_refl _) _)
    generalize w1.alloc (.cells #[.int .u8 97] 5 (1, 2)) = W1 at *
    refine (create_nil _ _ _).mono ?_
    rintro e w2 ⟨rfl, hb⟩
    have I2 := I1'.below hb
    clear I1' hb
    clear hcv I1
    have k0 := I2.c0
    have k1 := I2.c1
    have k2 := I2.c2
    have k3 := I2.c3
    go_wp2_with fail
    clear k0 k1 k2 k3
    refine (slice_nil h none none _ _).mono ?_
    rintro e w3 ⟨rfl, hb⟩
    have I3 := I2.below hb
    clear I2 hb
    have k0 := I3.c0
    have k1 := I3.c1
    have k2 := I3.c2
    have k3 := I3.c3
    go_wp2_with fail
    clear k0 k1 k2 k3
    refine (register_nil os oh op on h _ _).mono ?_
    rintro e w4 ⟨rfl, hb⟩
    have I4 := I3.below hb
    clear I3 hb
    have k0 := I4.c0
    have k1 := I4.c1
    have k2 := I4.c2
    have k3 := I4.c3
    go_wp2_with fail
    clear k0 k1 k2 k3
    refine (notice_nil _).mono ?_
    rintro e w5 ⟨rfl, hb⟩
    have I5 := I4.below hb
    clear I4 hb
    have k0 := I5.c0
    have k1 := I5.c1
    have k2 := I5.c2
    have k3 := I5.c3
    go_wp2_with fail
    clear k0 k1 k2 k3
    refine (blob_nil _ _ _ _ _ _ _ _ _ _ _ _ _ _ _ os oh op on _).mono ?_
    rintro e w6 ⟨rfl, hb⟩
    have I6 := I5.below hb
    clear I5 hb
    have k0 := I6.c0
    have k1 := I6.c1
    have k2 := I6.c2
    have k3 := I6.c3
    go_wp2_with fail
    clear k0 k1 k2 k3
    refine (forget_nil h _).mono ?_
    rintro e w7 ⟨rfl, hb⟩
    have I7 := I6.below hb
    clear I6 hb
    have k0 := I7.c0
    have k1 := I7.c1
    have k2 := I7.c2
    have k3 := I7.c3
    go_wp2_with fail
    clear k0 k1 k2 k3
    refine (revoke_nil name os oh op on _).mono ?_
    rintro e w8 ⟨rfl, hb⟩
    have I8 := I7.below hb
    clear I7 hb
    have k0 := I8.c0
    have k1 := I8.c1
    have k2 := I8.c2
    have k3 := I8.c3
    go_wp2_with fail
    clear k0 k1 k2 k3
    refine (bytes_nil _).mono ?_
    rintro e w9 ⟨rfl, hb⟩
    have I9 := I8.below hb
    clear I8 hb
    have k0 := I9.c0
    have k1 := I9.c1
    have k2 := I9.c2
    have k3 := I9.c3
    go_wp2_with fail
    clear k0 k1 k2 k3
    refine (urls_nil _).mono ?_
    rintro e w10 ⟨rfl, hb⟩
    have I10 := I9.below hb
    clear I9 hb
    have k0 := I10.c0
    have k1 := I10.c1
    have k2 := I10.c2
    have k3 := I10.c3
    go_wp2_with fail
    clear k0 k1 k2 k3
    refine (nilfetch_about os oh op on m _ I10.tab I10.max I10.pos).mono ?_
    rintro e w11 ⟨rfl, hb⟩
    have I11 := I10.below hb
    clear I10 hb
    unfold ansV
    have k0 := I11.c0
    have k1 := I11.c1
    have k2 := I11.c2
    have k3 := I11.c3
    go_wp2_with fail
    clear k0 k1 k2 k3
    refine (nilfetch_blob os oh op on m _ I11.tab I11.max I11.pos).mono ?_
    rintro e w12 ⟨rfl, hb⟩
    have I12 := I11.below hb
    clear I11 hb
    unfold ansV
    have k0 := I12.c0
    have k1 := I12.c1
    have k2 := I12.c2
    have k3 := I12.c3
    go_wp2_with fail
    clear k0 k1 k2 k3
    go_ret
    exact ⟨rfl, I12.bel⟩
end Go.Proofs.YtibgiohijknmbaaGreatDoor

/-
  What the rows of this seat share: from a row's condition to the tables and the cell that the walks read; an origin's cells.
-/
namespace Go.Proofs.YtibgiohijknmbaaGreatDoor
open Go.RowKit Go.Shelf Go.Lib
open Go.ChangeShapes Go.WideShapes
open Go.ChangeMaps (open_string shut_string)
set_option linter.unusedVariables false
set_option maxRecDepth 100000
set_option linter.unusedSimpArgs false

theorem own : ownKnob Tryz.prog.godebug = none := by kernel_rfl
theorem laidOut : laidOutB Tryz.prog = true := by kernel_rfl

/-- The plain wrap under a condition, the world's shape kept. -/
theorem handed_and_shaped {H : Type} {enc : TypeId × Value → H} {a : Assume} {C : Checked} {os : Os} {f : FuncId} {fn : Func} {s : ChangeSpec} {conds : List PathCond} {apart fresh handsOn again : Bool} {X : World → Array Value → Prop}
    (hX : ∀ (w w' : World) (args : Array Value), w.heap = w'.heap → X w args → X w' args)
    (own : ownKnob C.prog.godebug = none) (started : os.Started) (noInit : C.prog.inits.idxOf? f = none) (hfn : C.prog.funcs[f]? = some fn)
    (witness : ∃ (w : World) (tape : Tape) (i : Input), w.os = os ∧ (w.forCall tape i).Shaped C.prog ∧ i.vars = [] ∧ Input.okWide C.prog (w.forCall tape i) .any w.heap.size f i ∧
      ((s.pre enc C.prog fn conds apart (w.forCall tape i).memory i.args ∧ X (w.forCall tape i).memory i.args) ∧ sizedMet enc C.prog fn (OpenSpec.ofChange s) apart (w.forCall tape i).memory i.args) ∧ a.holds C.prog (lone (Frame.enter C.prog f i.args .normal) [] (w.forCall tape i)))
    (contract : ∀ (W : World) (base : Nat) (args : Array Value) (ds gs : List (DataW H)) (before : List MemPlace),
      (∀ (j : Nat) t v, fn.params[j]? = some t → args[j]? = some v → Value.okWide C.prog W .any base t v) →
      DataW.Whole enc C.prog fn.params.toList s.vars apart W args.toList ds gs before →
      (DataW.weightsEach C.prog (fn.params.toList ++ s.plain.varTypes C.prog) (ds ++ gs)).all (· ≤ reachBytes) = true → X W args → W.ShapedOpen C.prog →
      Calls C.prog f args W fun e W' => ∃ v, e = .returned v ∧ s.post enc C.prog fn apart fresh handsOn again W args v W') :
    ReturnsInHanded a C os f .any (fun w args => (s.pre enc C.prog fn conds apart w args ∧ X w args) ∧ sizedMet enc C.prog fn (OpenSpec.ofChange s) apart w args) (s.post enc C.prog fn apart fresh handsOn again) := by
  refine returnsInHanded_of_calls own started noInit witness ?_
  intro w tape i _ hsh _ hok hpre hholds
  obtain ⟨_, _, _, fn', hfn', _, _, _, _, hval⟩ := hok
  have e : fn' = fn := Option.some.inj (hfn'.symm.trans hfn)
  subst e
  obtain ⟨⟨⟨ds, gs, before, hw, hc⟩, hx⟩, hz⟩ := hpre
  have hw' := DataW.Whole.of_heap (w' := w.forCall tape i) (by rfl) hw
  refine (contract (w.forCall tape i) w.heap.size i.args ds gs before hval hw' (hz.weights hw) (hX _ _ _ (by rfl) hx) hsh).mono fun e W' ⟨v, he, hp⟩ => ?_
  subst he
  exact ChangeSpec.post_blind hp

/-- The list of the variables that the rows tie. -/
def laidL : List (String × DataW Unit) := [("math/bits.deBruijn32tab", Rows.laid_math_bits_deBruijn32tab), ("math/bits.deBruijn64tab", Rows.laid_math_bits_deBruijn64tab), ("internal/strconv.uint64pow10", Rows.laid_internal_strconv_uint64pow10), ("unicode/utf8.acceptRanges", Rows.laid_unicode_utf8_acceptRanges), ("strconv.ErrRange", Rows.laid_strconv_ErrRange), ("strconv.ErrSyntax", Rows.laid_strconv_ErrSyntax), ("unicode/utf8.first", Rows.laid_unicode_utf8_first)]
theorem first_eq : (Rows.laid_unicode_utf8_first : DataW Unit) = firstData := by kernel_rfl
theorem accept_eq : (Rows.laid_unicode_utf8_acceptRanges : DataW Unit) = acceptData := by kernel_rfl
theorem tabs_of_laid {W : World} (h : laidMetH Tryz.prog laidL W) : Lib.Utf8Tabs 1 2 W := by
  rw [MakeChecks.laidMetH_plain _ _ _ (by kernel_rfl)] at h
  have h1 : VarReads Tryz.prog W "unicode/utf8.first" firstData := by
    rw [← first_eq]
    exact Lib.laidMet.reads h (by unfold laidL; simp)
  have h2 : VarReads Tryz.prog W "unicode/utf8.acceptRanges" acceptData := by
    rw [← accept_eq]
    exact Lib.laidMet.reads h (by unfold laidL; simp)
  exact utf8Tabs_of_readsT (U8Types.of260 Tryz.lays260) ⟨by kernel_rfl, by kernel_rfl, by kernel_rfl, by kernel_rfl, by kernel_rfl, by kernel_rfl, by kernel_rfl⟩ h1 h2
theorem max_of_shaped {W : World} (h : W.ShapedOpen Tryz.prog) : ∃ m, W.cell? ⟨0, 0, none⟩ = some (.int .i64 m) :=
  cell_of_shapedOpen_int (t := 3) (zero := #[.int .i64 0]) h (of_decide_eq_true (by kernel_rfl)) (by kernel_rfl) rfl (by kernel_rfl) (by kernel_rfl) Tryz.underlying3
theorem pos_of_max {W : World} {m : Int} (h : W.cell? ⟨0, 0, none⟩ = some (.int .i64 m)) : 0 < W.heap.size := by
  rcases Nat.eq_zero_or_pos W.heap.size with h' | h'
  · simp [World.cell?, Array.getElem?_eq_none (Nat.le_of_eq h')] at h
  · exact h'

theorem cell_str {W : World} {r : Reach} {b : Nat} {v : Value} (h : Cell.okWide Tryz.prog W r b 9 v) : ∃ s, v = .string s := by
  exact okWide_string Tryz.underlying9 (r := r) (base := b) (w := W) (by simp only [Value.okWide, Tryz.underlying9]; exact h)
theorem cell_int {W : World} {r : Reach} {b : Nat} {v : Value} (h : Cell.okWide Tryz.prog W r b 3 v) : ∃ n, v = .int .i64 n := by
  exact okWide_int Tryz.underlying3 (r := r) (base := b) (w := W) (by simp only [Value.okWide, Tryz.underlying3]; exact h)
theorem cell_i64 {W : World} {r : Reach} {b : Nat} {v : Value} (h : Cell.okWide Tryz.prog W r b 2 v) : ∃ n, v = .int .i64 n := by
  exact okWide_int Tryz.underlying2 (r := r) (base := b) (w := W) (by simp only [Value.okWide, Tryz.underlying2]; exact h)
theorem origin_cells {W : World} {b : Nat} {v : Value} (h : Value.okWide Tryz.prog W .any b 23 v) : ∃ os oh op on, v = .agg (oriV os oh op on) := by
  simp only [Value.okWide, Tryz.underlying23] at h
  obtain ⟨cs, rfl, hs, ts, ht, _, hc⟩ := h
  have e : Tryz.prog.cellTypes Tryz.prog.depth 23 = some [9, 9, 3, 2] := by kernel_rfl
  obtain rfl := Option.some.inj (e.symm.trans ht)
  have es : Tryz.prog.cellsOf 23 = 4 := by kernel_rfl
  rw [es] at hs
  obtain ⟨u0, x0, c0⟩ := hc 0 _ (Array.getElem?_eq_getElem (by omega))
  obtain ⟨u1, x1, c1⟩ := hc 1 _ (Array.getElem?_eq_getElem (by omega))
  obtain ⟨u2, x2, c2⟩ := hc 2 _ (Array.getElem?_eq_getElem (by omega))
  obtain ⟨u3, x3, c3⟩ := hc 3 _ (Array.getElem?_eq_getElem (by omega))
  obtain rfl : 9 = u0 := Option.some.inj x0
  obtain rfl : 9 = u1 := Option.some.inj x1
  obtain rfl : 3 = u2 := Option.some.inj x2
  obtain rfl : 2 = u3 := Option.some.inj x3
  obtain ⟨s0, e0⟩ := cell_str c0
  obtain ⟨s1, e1⟩ := cell_str c1
  obtain ⟨s2, e2⟩ := cell_int c2
  obtain ⟨s3, e3⟩ := cell_i64 c3
  refine ⟨s0, s1, s2, s3, ?_⟩
  unfold oriV
  rw [← e0, ← e1, ← e2, ← e3]
  congr 1
  apply Array.ext
  · exact hs
  · intro i h1 h2
    have h2' : i < 4 := h2
    match i, h2' with
    | 0, _ => rfl
    | 1, _ => rfl
    | 2, _ => rfl
    | 3, _ => rfl
end Go.Proofs.YtibgiohijknmbaaGreatDoor

/-
  The closed facts that the rows of this seat share, each for itself (one declaration for all of them outgrows the kernel's lid).
-/
namespace Go.Proofs.YtibgiohijknmbaaGreatDoor
open Go.RowKit
set_option maxRecDepth 100000
theorem p_laid : laidOutB Tryz.checked.prog = true := by kernel_rfl
theorem p_rowed : mapsRowed Tryz.checked.prog = true := by kernel_rfl
theorem p_heard : Tryz.checked.prog.stopsHeard = true := by kernel_rfl
theorem p_enter : Tryz.checked.prog.mayEnter = true := by kernel_rfl
theorem p_lifts : Tryz.checked.prog.liftsFinal = Rows.stackNilRow.lifted := by kernel_rfl
theorem p_make : Tryz.checked.prog.make = some Rows.stackNilRow.make := by kernel_rfl
theorem p_keys : Tryz.checked.prog.plainKeys = Rows.stackNilRow.plainKeys := by kernel_rfl
theorem p_stops : Tryz.checked.prog.stops = [] := by kernel_rfl
theorem p_knobs : Tryz.checked.prog.stopKnobs = [] := by kernel_rfl
theorem p_main : Tryz.checked.prog.mainIs = some (true, "3065b7268b499d9be64a83df9c0786a8dcd62240f7f14b831331270e32e5fb8d".toList) := by kernel_rfl
theorem p_looks : true = Tryz.checked.prog.looks [] := by kernel_rfl
end Go.Proofs.YtibgiohijknmbaaGreatDoor

/-
  StackGoes's own closed facts.
-/
namespace Go.Proofs.YtibgiohijknmbaaGreatDoor
open Go.RowKit
set_option maxRecDepth 100000
theorem goes_wf : Rows.stackGoesRow.wf (OpenSpec.ofChange Rows.stackGoesSpec) = true := by kernel_rfl
theorem goes_inPlace : Tryz.checked.prog.inPlace 4 = Rows.stackGoesRow.inPlace := by kernel_rfl
theorem goes_unf : Tryz.checked.prog.unfollowed 4 = Rows.stackGoesRow.unfollowed := by kernel_rfl
theorem goes_rec : Tryz.checked.prog.recurses 4 = Rows.stackGoesRow.recurses := by kernel_rfl
theorem goes_named : Tryz.checked.prog.varsNamed 4 = Rows.stackGoesRow.named := by kernel_rfl
theorem goes_func : Tryz.checked.prog.funcNamed Rows.stackGoesRow.func = some 4 := by kernel_rfl
theorem goes_inst : Tryz.f4.isInstance Tryz.checked.prog Rows.stackGoesRow.origin Rows.stackGoesRow.targs := of_decide_eq_true (by kernel_rfl)
theorem goes_wrap : Tryz.f4.isWrapper Tryz.checked.prog Rows.stackGoesRow.wrapper Rows.stackGoesRow.mainSum := by
  unfold Func.isWrapper
  first | (rw [if_pos (by decide +kernel)]; kernel_rfl) | (rw [if_neg (by decide +kernel)]; exact ⟨rfl, rfl⟩)
theorem goes_byText : Rows.stackGoesRow.wfByText (OpenSpec.ofChange Rows.stackGoesSpec) = true := by kernel_rfl
theorem goes_by : false = Rows.stackGoesRow.goesBy Tryz.checked.prog := by kernel_rfl
theorem goes_closed : joinedFacts Tryz.checked.prog 4 Tryz.f4 Rows.stackGoesSpec Rows.stackGoesRow = true := by
  rw [joinedFacts, goes_wf, p_laid, p_rowed, p_stops, p_knobs, goes_inPlace, goes_unf, goes_rec, goes_named, p_keys, p_heard, p_enter, p_lifts, p_make]
  kernel_rfl
end Go.Proofs.YtibgiohijknmbaaGreatDoor

/-
  Opaque origins: origin.Tuple, Print, Same.
-/
namespace Go.Proofs.YtibgiohijknmbaaGreatDoor
open Go.RowKit
set_option linter.unusedVariables false
set_option linter.unusedSimpArgs false

theorem bx {W W' : World} {k : Nat} {o : Obj} (h : W.heap[k]? = some o) (hb : Below W.heap.size W W') : W'.heap[k]? = some o := (hb.block k (Array.getElem?_eq_some_iff.1 h).1).trans h
def nullS : ByteArray := ⟨#[110, 117, 108, 108]⟩
theorem tuple_no (oh : ByteArray) (op on : Int) (w : World) :
    Calls Tryz.prog 118 #[.agg (oriV ⟨#[]⟩ oh op on)] w fun e w' => e = .returned (.bool false) ∧ Below w.heap.size w w' := by
  unfold oriV
  go_enter Tryz.func118, Tryz.ntmps118
  go_wp2
  go_ret
  exact ⟨ret_b (by simp), (Below.refl _ _).alloc (Nat.le_refl _) _⟩
set_option maxRecDepth 100000 in
set_option maxHeartbeats 1000000 in
theorem oprint_no (oh : ByteArray) (op on : Int) (w : World) :
    Calls Tryz.prog 66 #[.agg (oriV ⟨#[]⟩ oh op on)] w fun e w' => e = .returned (.string nullS) ∧ Below w.heap.size w w' := by
  have hr : (w.alloc (.cells (oriV ⟨#[]⟩ oh op on) 23)).heap[w.heap.size]? = some (.cells (oriV ⟨#[]⟩ oh op on) 23 (0, 0)) := heap_last _ _
  have hb0 : Below w.heap.size w (w.alloc (.cells (oriV ⟨#[]⟩ oh op on) 23)) := (Below.refl _ _).alloc (Nat.le_refl _) _
  obtain ⟨W0, hW0⟩ : ∃ W, W = w.alloc (.cells (oriV ⟨#[]⟩ oh op on) 23) := ⟨_, rfl⟩
  rw [← hW0] at hr hb0
  have HW : Hid (w.alloc (.cells #[.string ⟨#[]⟩, .string oh, .int .i64 op, .int .i64 on] 23) = W0) := Lib.hid hW0.symm
  have c0 : W0.cell? ⟨w.heap.size, 0, none⟩ = some (.string ⟨#[]⟩) := Lib.cell_of_heap hr 0
  have c1 : W0.cell? ⟨w.heap.size, 1, none⟩ = some (.string oh) := Lib.cell_of_heap hr 1
  have c2 : W0.cell? ⟨w.heap.size, 2, none⟩ = some (.int .i64 op) := Lib.cell_of_heap hr 2
  have c3 : W0.cell? ⟨w.heap.size, 3, none⟩ = some (.int .i64 on) := Lib.cell_of_heap hr 3
  clear hW0 hr
  unfold oriV
  go_enter Tryz.func66, Tryz.ntmps66
  go_wp2_with (rw [HW.out])
  refine (tuple_no oh op on W0).mono ?_
  rintro e w1 ⟨rfl, hb1⟩
  go_wp2_with fail
  go_ret
  exact ⟨rfl, hb0.trans (hb1.mono hb0.size)⟩
set_option maxRecDepth 100000 in
set_option maxHeartbeats 1000000 in
theorem same_no (oh oh' : ByteArray) (op on op' on' : Int) (w : World) :
    Calls Tryz.prog 120 #[.agg (oriV ⟨#[]⟩ oh op on), .agg (oriV ⟨#[]⟩ oh' op' on')] w fun e w' => e = .returned (.bool (on == on')) ∧ Below w.heap.size w w' := by
  have hs1 : (w.alloc (.cells (oriV ⟨#[]⟩ oh op on) 23)).heap.size = w.heap.size + 1 := by simp
  have hr : ((w.alloc (.cells (oriV ⟨#[]⟩ oh op on) 23)).alloc (.cells (oriV ⟨#[]⟩ oh' op' on') 23)).heap[w.heap.size]? = some (.cells (oriV ⟨#[]⟩ oh op on) 23 (0, 0)) := by
    rw [Below.heap_alloc _ _ _ (by simp)]
    exact heap_last _ _
  have hr' : ((w.alloc (.cells (oriV ⟨#[]⟩ oh op on) 23)).alloc (.cells (oriV ⟨#[]⟩ oh' op' on') 23)).heap[w.heap.size + 1]? = some (.cells (oriV ⟨#[]⟩ oh' op' on') 23 (0, 0)) := by
    have := heap_last (w.alloc (.cells (oriV ⟨#[]⟩ oh op on) 23)) (.cells (oriV ⟨#[]⟩ oh' op' on') 23)
    rw [hs1] at this
    exact this
  have hb0 : Below w.heap.size w ((w.alloc (.cells (oriV ⟨#[]⟩ oh op on) 23)).alloc (.cells (oriV ⟨#[]⟩ oh' op' on') 23)) := ((Below.refl _ _).alloc (Nat.le_refl _) _).alloc (by rw [hs1]; omega) _
  obtain ⟨W0, hW0⟩ : ∃ W, W = (w.alloc (.cells (oriV ⟨#[]⟩ oh op on) 23)).alloc (.cells (oriV ⟨#[]⟩ oh' op' on') 23) := ⟨_, rfl⟩
  rw [← hW0] at hr hb0 hr'
  have HW : Hid ((w.alloc (.cells #[.string ⟨#[]⟩, .string oh, .int .i64 op, .int .i64 on] 23)).alloc (.cells #[.string ⟨#[]⟩, .string oh', .int .i64 op', .int .i64 on'] 23) = W0) := Lib.hid hW0.symm
  clear hW0 hs1
  have cs : ∀ W : World, W.heap[w.heap.size]? = some (.cells (oriV ⟨#[]⟩ oh op on) 23 (0, 0)) → (W.cell? ⟨w.heap.size, 0, none⟩ = some (.string ⟨#[]⟩) ∧ W.cell? ⟨w.heap.size, 1, none⟩ = some (.string oh) ∧ W.cell? ⟨w.heap.size, 2, none⟩ = some (.int .i64 op) ∧ W.cell? ⟨w.heap.size, 3, none⟩ = some (.int .i64 on)) :=
    fun W h => ⟨Lib.cell_of_heap h 0, Lib.cell_of_heap h 1, Lib.cell_of_heap h 2, Lib.cell_of_heap h 3⟩
  have cs' : ∀ W : World, W.heap[w.heap.size + 1]? = some (.cells (oriV ⟨#[]⟩ oh' op' on') 23 (0, 0)) → (W.cell? ⟨w.heap.size + 1, 0, none⟩ = some (.string ⟨#[]⟩) ∧ W.cell? ⟨w.heap.size + 1, 1, none⟩ = some (.string oh') ∧ W.cell? ⟨w.heap.size + 1, 2, none⟩ = some (.int .i64 op') ∧ W.cell? ⟨w.heap.size + 1, 3, none⟩ = some (.int .i64 on')) :=
    fun W h => ⟨Lib.cell_of_heap h 0, Lib.cell_of_heap h 1, Lib.cell_of_heap h 2, Lib.cell_of_heap h 3⟩
  have HC := Lib.hid cs
  have HC' := Lib.hid cs'
  have HR := Lib.hid hr
  have HR' := Lib.hid hr'
  obtain ⟨c0, c1, c2, c3⟩ := cs W0 hr
  obtain ⟨d0, d1, d2, d3⟩ := cs' W0 hr'
  clear cs cs' hr hr'
  unfold oriV
  go_enter Tryz.func120, Tryz.ntmps120
  go_wp2_with (rw [HW.out])
  refine (tuple_no oh op on W0).mono ?_
  rintro e w1 ⟨rfl, hb1⟩
  have HR1 := Lib.hid (bx HR.out hb1)
  have HR1' := Lib.hid (bx HR'.out hb1)
  have hB1 := hb0.trans (hb1.mono hb0.size)
  clear c0 c1 c2 c3 d0 d1 d2 d3 hb1
  obtain ⟨c0, c1, c2, c3⟩ := HC.out w1 HR1.out
  obtain ⟨d0, d1, d2, d3⟩ := HC'.out w1 HR1'.out
  go_wp2_with fail
  refine (tuple_no oh op on w1).mono ?_
  rintro e w2 ⟨rfl, hb2⟩
  have HR2 := Lib.hid (bx HR1.out hb2)
  have HR2' := Lib.hid (bx HR1'.out hb2)
  have hB2 := hB1.trans (hb2.mono hB1.size)
  clear c0 c1 c2 c3 d0 d1 d2 d3 hb2
  obtain ⟨c0, c1, c2, c3⟩ := HC.out w2 HR2.out
  obtain ⟨d0, d1, d2, d3⟩ := HC'.out w2 HR2'.out
  go_wp2_with fail
  refine (tuple_no oh' op' on' w2).mono ?_
  rintro e w3 ⟨rfl, hb3⟩
  have HR3 := Lib.hid (bx HR2.out hb3)
  have HR3' := Lib.hid (bx HR2'.out hb3)
  have hB3 := hB2.trans (hb3.mono hB2.size)
  clear c0 c1 c2 c3 d0 d1 d2 d3 hb3
  obtain ⟨c0, c1, c2, c3⟩ := HC.out w3 HR3.out
  obtain ⟨d0, d1, d2, d3⟩ := HC'.out w3 HR3'.out
  go_wp2_with fail
  go_ret
  exact ⟨rfl, hB3⟩
end Go.Proofs.YtibgiohijknmbaaGreatDoor

/-
  store: entries in memory, slices.IndexFunc, find.
-/
namespace Go.Proofs.YtibgiohijknmbaaGreatDoor
open Go.RowKit
set_option linter.unusedVariables false
set_option linter.unusedSimpArgs false

/-- A store's entry: a URL, who registered it, and the block of what it has. -/
structure SEnt where
  url : ByteArray
  sch : ByteArray
  host : ByteArray
  port : Int
  nonce : Int
  blk : Nat
instance : Inhabited SEnt := ⟨⟨ByteArray.empty, ByteArray.empty, ByteArray.empty, 0, 0, 0⟩⟩
def SEnt.vals (e : SEnt) : List Value := [.string e.url, .string e.sch, .string e.host, .int .i64 e.port, .int .i64 e.nonce, .pointer (some ⟨e.blk, 0, none⟩)]
def sentV (l : List SEnt) : List Value := l.flatMap SEnt.vals
theorem sentV_length (es : List SEnt) : (sentV es).length = es.length * 6 := by
  induction es with
  | nil => rfl
  | cons a t ih =>
    have : sentV (a :: t) = a.vals ++ sentV t := rfl
    rw [this, List.length_append, ih, List.length_cons]
    simp [SEnt.vals]
    omega
theorem sentV_get (es : List SEnt) (d : SEnt) : ∀ j, j < es.length → ∀ i, i < 6 → (sentV es)[j * 6 + i]? = (es.getD j d).vals[i]? := by
  induction es with
  | nil => intro j hj; exact absurd hj (Nat.not_lt_zero _)
  | cons a t ih =>
    intro j hj i hi
    have e : sentV (a :: t) = a.vals ++ sentV t := rfl
    have hl : a.vals.length = 6 := rfl
    rw [e]
    cases j with
    | zero =>
      rw [Nat.zero_mul, Nat.zero_add, List.getElem?_append_left (by omega)]
      rfl
    | succ j =>
      have h := ih j (by simpa using hj) i hi
      rw [List.getElem?_append_right (by omega), List.getD_cons_succ, ← h, hl]
      congr 1
      omega
def RowS (w : World) (B : Nat) (lv : Value) (es : List SEnt) : Prop := w.ownsRow B 137 6 lv es.length (sentV es)
def firstS (p : SEnt → Bool) (es : List SEnt) : Int := if es.findIdx p < es.length then (es.findIdx p : Int) else -1
def bEq (a b : ByteArray) : Bool := decide (a = b)
theorem str_ne2 {a b : ByteArray} (h : ¬ a = b) : ¬ a = b ∧ ¬ a.toList = b.toList ∧ (a.toList == b.toList) = false := by
  have h2 : ¬ a.toList = b.toList := by
    rw [ByteArray.toList_eq, ByteArray.toList_eq]
    intro e
    apply h
    apply ByteArray.ext
    exact Array.toList_inj.1 e
  exact ⟨h, h2, by simpa using h2⟩

set_option maxRecDepth 100000 in
set_option maxHeartbeats 1000000 in
theorem sidx_c (B : Nat) (lv : Value) (es : List SEnt) (hb : Nat) (h : ByteArray) (w : World) (ho : RowS w B lv es) (hh : w.cell? ⟨hb, 0, none⟩ = some (.string h)) (hlt : hb < w.heap.size) (hn : es.length ≤ 1000000) :
    Calls Tryz.prog 123 #[lv, .func (.func 124) #[] #[.pointer (some ⟨hb, 0, none⟩)]] w fun e w' => e = .returned (.int .i64 (firstS (fun e => bEq e.url h) es)) ∧ Below w.heap.size w w' := by
  rcases ho.2 with ⟨hv, h0⟩ | ⟨g, cap, cur, hv, hg, hhp, hnc, hm, hs, ht⟩
  · subst hv
    have : es = [] := List.length_eq_zero_iff.1 h0
    subst this
    go_enter Tryz.func123, Tryz.ntmps123
    go_wp2
    refine wp_loop_rounds 1 ?_
    rw [rounds_succ]
    go_wp2
    go_ret
    exact ⟨rfl, Below.refl _ _⟩
  · subst hv
    have hgl : g < w.heap.size := (Array.getElem?_eq_some_iff.1 hhp).1
    have hcell : ∀ j, j < es.length → ∀ i, i < 6 → w.cell? ⟨g, j * 6 + i, none⟩ = (es.getD j default).vals[i]? := fun j hj i hi => by
      have e1 := sentV_get es default j hj i hi
      obtain ⟨v, hv⟩ : ∃ v, (es.getD j default).vals[i]? = some v := ⟨_, List.getElem?_eq_getElem (show i < 6 from hi)⟩
      rw [hv] at e1 ⊢
      have c1 := ho.cells (g := g) rfl _ _ e1
      rw [addr_add0] at c1
      exact c1
    have HCE := Lib.hid hcell
    clear hcell ho hs ht hhp
    go_enter Tryz.func123, Tryz.ntmps123
    go_wp2
    go_loopw [8] (fun i wr => ∃ k : Nat, k ≤ es.length ∧ i = .int .i64 k ∧ Below w.heap.size w wr ∧ Hid (∀ j, j < k → (bEq (es.getD j default).url h) = false)) (fun i _ => es.length - (intOf i).toNat)
    case atStart => exact ⟨0, Nat.zero_le _, rfl, Below.refl _ _, fun j hj => absurd hj (Nat.not_lt_zero _)⟩
    case round =>
      obtain ⟨k, hk, rfl, hbl, hall⟩ := hrel
      by_cases hlk : k < es.length
      · have hq := HCE.out k hlk
        obtain ⟨x, hx⟩ : ∃ x, x = es.getD k default := ⟨_, rfl⟩
        rw [← hx] at hq
        have d0 : wr.cell? ⟨g, k * 6, none⟩ = some (.string x.url) := (hbl.cell (p := ⟨g, k * 6, none⟩) hgl).trans (hq 0 (by decide))
        have d1 : wr.cell? ⟨g, k * 6 + 1, none⟩ = some (.string x.sch) := (hbl.cell (p := ⟨g, k * 6 + 1, none⟩) hgl).trans (hq 1 (by decide))
        have d2 : wr.cell? ⟨g, k * 6 + 2, none⟩ = some (.string x.host) := (hbl.cell (p := ⟨g, k * 6 + 2, none⟩) hgl).trans (hq 2 (by decide))
        have d3 : wr.cell? ⟨g, k * 6 + 3, none⟩ = some (.int .i64 x.port) := (hbl.cell (p := ⟨g, k * 6 + 3, none⟩) hgl).trans (hq 3 (by decide))
        have d4 : wr.cell? ⟨g, k * 6 + 4, none⟩ = some (.int .i64 x.nonce) := (hbl.cell (p := ⟨g, k * 6 + 4, none⟩) hgl).trans (hq 4 (by decide))
        have d5 : wr.cell? ⟨g, k * 6 + 5, none⟩ = some (.pointer (some ⟨x.blk, 0, none⟩)) := (hbl.cell (p := ⟨g, k * 6 + 5, none⟩) hgl).trans (hq 5 (by decide))
        have dh : wr.cell? ⟨hb, 0, none⟩ = some (.string h) := (hbl.cell (p := ⟨hb, 0, none⟩) hlt).trans hh
        have hl2 : hb < wr.heap.size := Nat.lt_of_lt_of_le hlt hbl.size
        have hl3 : g < wr.heap.size := Nat.lt_of_lt_of_le hgl hbl.size
        have hal : Below w.heap.size w (wr.alloc (.cells #[.string x.url, .string x.sch, .string x.host, .int .i64 x.port, .int .i64 x.nonce, .pointer (some ⟨x.blk, 0, none⟩)] 137)) := hbl.alloc hbl.size _
        have HX := Lib.hid hx
        clear hq hx
        obtain ⟨xu, xs, xh, xp, xn, xb⟩ := x
        simp only at d0 d1 d2 d3 d4 d5 hal
        by_cases hxh : xu = h
        · subst hxh
          have hfi : es.findIdx (fun e => bEq e.url xu) = k := by
            refine (List.findIdx_eq hlk).2 ⟨?_, fun j hj => ?_⟩
            · have := HX.out
              rw [List.getD_eq_getElem?_getD, List.getElem?_eq_getElem hlk, Option.getD_some] at this
              rw [← this]
              simp [bEq]
            · have := hall.out j hj
              rw [List.getD_eq_getElem?_getD, List.getElem?_eq_getElem (by omega), Option.getD_some] at this
              exact this
          have hres : firstS (fun e => bEq e.url xu) es = (k : Int) := by unfold firstS; rw [hfi, if_pos hlk]
          have HRES := Lib.hid hres
          clear hfi hres
          go_wp2
          go_ret
          exact ⟨ret_i HRES.out.symm, hal⟩
        · have hall2 : Hid (∀ j, j < k + 1 → (bEq (es.getD j default).url h) = false) := fun j hj => by
            by_cases e : j = k
            · subst e; rw [← HX.out]; simpa [bEq] using hxh
            · exact hall.out j (by omega)
          obtain ⟨q1, q2, q3⟩ := str_ne2 hxh
          clear hxh
          go_wp2
          exact ⟨⟨k + 1, by omega, by go_num, hal, hall2⟩, by simp [intOf]; omega⟩
      · obtain rfl : k = es.length := by omega
        have hfi : es.findIdx (fun e => bEq e.url h) = es.length := by
          refine List.findIdx_eq_length.2 fun e he => ?_
          obtain ⟨j, hj, rfl⟩ := List.getElem_of_mem he
          have := hall.out j hj
          rw [List.getD_eq_getElem?_getD, List.getElem?_eq_getElem hj, Option.getD_some] at this
          exact this
        have hres : firstS (fun e => bEq e.url h) es = -1 := by unfold firstS; rw [hfi, if_neg (Nat.lt_irrefl _)]
        have HRES := Lib.hid hres
        clear hfi hres
        go_wp2
        go_ret
        exact ⟨ret_i HRES.out.symm, hbl⟩
end Go.Proofs.YtibgiohijknmbaaGreatDoor

/-
  store: find over entries in memory.
-/
namespace Go.Proofs.YtibgiohijknmbaaGreatDoor
open Go.RowKit
set_option linter.unusedVariables false
set_option linter.unusedSimpArgs false

/-- A store in memory. -/
def StoreAt (w : World) (B sb : Nat) (ss : List SEnt) (room : Int) : Prop :=
  B ≤ sb ∧ ss.length ≤ 64 ∧ ∃ lv, w.heap[sb]? = some (.cells #[lv, .int .i64 room] 135 (0, 0)) ∧ RowS w B lv ss
theorem StoreAt.lt {w : World} {B sb : Nat} {ss : List SEnt} {room : Int} (h : StoreAt w B sb ss room) : sb < w.heap.size := by
  obtain ⟨_, _, v, hv, _⟩ := h
  exact (Array.getElem?_eq_some_iff.1 hv).1
theorem StoreAt.later {w w' : World} {B sb : Nat} {ss : List SEnt} {room : Int} (h : StoreAt w B sb ss room) (hb : Below w.heap.size w w') : StoreAt w' B sb ss room := by
  have hlt := h.lt
  obtain ⟨h1, h2, v, hv, ho⟩ := h
  refine ⟨h1, h2, v, (hb.block _ hlt).trans hv, ?_⟩
  exact ho.kept (w' := w') (row := none) ⟨hb.os, hb.tape, hb.output, hb.size, fun i hi _ => hb.block i hi⟩ (by cases v.ownBlock <;> simp)
theorem firstS_range (p : SEnt → Bool) (es : List SEnt) : -1 ≤ firstS p es ∧ firstS p es < es.length := by
  unfold firstS
  split <;> omega
def getS (ss : List SEnt) (u : ByteArray) : Option SEnt := ss.find? fun e => bEq e.url u
theorem getS_none {es : List SEnt} {h : ByteArray} (hf : firstS (fun e => bEq e.url h) es < 0) : getS es h = none := by
  unfold firstS at hf
  split at hf
  · omega
  · rename_i hn
    unfold getS
    rw [List.find?_eq_none.2]
    intro e he
    have hle := List.findIdx_le_length (p := fun e : SEnt => bEq e.url h) (xs := es)
    have := List.findIdx_eq_length.1 (Nat.le_antisymm hle (Nat.le_of_not_lt hn)) e he
    simpa using this
theorem getS_some {es : List SEnt} {h : ByteArray} (hf : 0 ≤ firstS (fun e => bEq e.url h) es) : ∃ k : Nat, firstS (fun e => bEq e.url h) es = (k : Int) ∧ k < es.length ∧ getS es h = some (es.getD k default) := by
  unfold firstS at *
  split at hf
  · rename_i hlt
    refine ⟨_, by rw [if_pos hlt], hlt, ?_⟩
    unfold getS
    rw [List.find?_eq_getElem?_findIdx, List.getElem?_eq_getElem hlt, List.getD_eq_getElem?_getD, List.getElem?_eq_getElem hlt]
    rfl
  · omega

set_option maxRecDepth 100000 in
theorem sfind_c (B sb : Nat) (ss : List SEnt) (room : Int) (h : ByteArray) (w : World) (hT : StoreAt w B sb ss room) :
    Calls Tryz.prog 68 #[.pointer (some ⟨sb, 0, none⟩), .string h] w fun e w' => e = .returned (.int .i64 (firstS (fun e => bEq e.url h) ss)) ∧ Below w.heap.size w w' := by
  have hlt := hT.lt
  have hb0 : Below w.heap.size w (w.alloc (.cells #[.string h] 9)) := (Below.refl _ _).alloc (Nat.le_refl _) _
  have hT0 := hT.later hb0
  obtain ⟨_, hn, lv, hv, ho⟩ := hT
  obtain ⟨_, _, lv', hv', ho'⟩ := hT0
  have c0 : w.cell? ⟨sb, 0, none⟩ = some lv := Lib.cell_of_heap hv 0
  have hll : lv' = lv := by
    have e := (hb0.block _ hlt).trans hv
    rw [hv'] at e
    have e := Option.some.inj e
    injection e with e
    have := congrArg (fun a : Array Value => a[0]?) e
    simpa using this
  subst hll
  have hi := sidx_c B lv' ss w.heap.size h _ ho' (Lib.cell_of_heap (heap_last w _) 0) (by simp) (by omega)
  clear hv hv' ho ho' hn
  go_enter Tryz.func68, Tryz.ntmps68
  go_wp2_with fail
  refine hi.mono ?_
  rintro e w1 ⟨rfl, hb1⟩
  go_wp2
  go_ret
  exact ⟨rfl, hb0.trans (hb1.mono hb0.size)⟩
end Go.Proofs.YtibgiohijknmbaaGreatDoor

/-
  ident.Of: sixteen bytes as text.
-/
namespace Go.Proofs.YtibgiohijknmbaaGreatDoor
open Go.RowKit
set_option linter.unusedVariables false
set_option linter.unusedSimpArgs false

set_option maxRecDepth 100000 in
theorem dash_c (k : Int) (w : World) :
    Calls Tryz.prog 122 #[.int .i64 k] w fun e w' => e = .returned (.bool (decide (k = 4 ∨ k = 6 ∨ k = 8 ∨ k = 10))) ∧ w' = w := by
  by_cases h4 : k = 4
  · subst h4
    go_enter Tryz.func122, Tryz.ntmps122
    go_wp2
    go_ret
    exact ⟨rfl, rfl⟩
  · by_cases h6 : k = 6
    · subst h6
      go_enter Tryz.func122, Tryz.ntmps122
      go_wp2
      go_ret
      exact ⟨rfl, rfl⟩
    · by_cases h8 : k = 8
      · subst h8
        go_enter Tryz.func122, Tryz.ntmps122
        go_wp2
        go_ret
        exact ⟨rfl, rfl⟩
      · by_cases h10 : k = 10
        · subst h10
          go_enter Tryz.func122, Tryz.ntmps122
          go_wp2
          go_ret
          exact ⟨rfl, rfl⟩
        · have e : decide (k = 4 ∨ k = 6 ∨ k = 8 ∨ k = 10) = false := by simp [h4, h6, h8, h10]
          rw [e]
          have e4 : (k == 4) = false := by simpa using h4
          have e6 : (k == 6) = false := by simpa using h6
          have e8 : (k == 8) = false := by simpa using h8
          have e10 : (k == 10) = false := by simpa using h10
          clear e
          go_enter Tryz.func122, Tryz.ntmps122
          go_wp2
          go_ret
          exact ⟨rfl, rfl⟩

set_option maxRecDepth 100000 in
theorem idx16 (b0 b1 b2 b3 b4 b5 b6 b7 b8 b9 b10 b11 b12 b13 b14 b15 : Int) (k : Nat) (hk : k < 16) : ∃ x ∈ [b0, b1, b2, b3, b4, b5, b6, b7, b8, b9, b10, b11, b12, b13, b14, b15], ∀ W, (Instr.index 33 (.agg #[.int .u8 b0, .int .u8 b1, .int .u8 b2, .int .u8 b3, .int .u8 b4, .int .u8 b5, .int .u8 b6, .int .u8 b7, .int .u8 b8, .int .u8 b9, .int .u8 b10, .int .u8 b11, .int .u8 b12, .int .u8 b13, .int .u8 b14, .int .u8 b15]) (.int .i64 k)).run Tryz.prog W = .ok (.int .u8 x) W := by
  match k, hk with
  | 0, _ => exact ⟨b0, by simp, fun W => by kernel_rfl⟩
  | 1, _ => exact ⟨b1, by simp, fun W => by kernel_rfl⟩
  | 2, _ => exact ⟨b2, by simp, fun W => by kernel_rfl⟩
  | 3, _ => exact ⟨b3, by simp, fun W => by kernel_rfl⟩
  | 4, _ => exact ⟨b4, by simp, fun W => by kernel_rfl⟩
  | 5, _ => exact ⟨b5, by simp, fun W => by kernel_rfl⟩
  | 6, _ => exact ⟨b6, by simp, fun W => by kernel_rfl⟩
  | 7, _ => exact ⟨b7, by simp, fun W => by kernel_rfl⟩
  | 8, _ => exact ⟨b8, by simp, fun W => by kernel_rfl⟩
  | 9, _ => exact ⟨b9, by simp, fun W => by kernel_rfl⟩
  | 10, _ => exact ⟨b10, by simp, fun W => by kernel_rfl⟩
  | 11, _ => exact ⟨b11, by simp, fun W => by kernel_rfl⟩
  | 12, _ => exact ⟨b12, by simp, fun W => by kernel_rfl⟩
  | 13, _ => exact ⟨b13, by simp, fun W => by kernel_rfl⟩
  | 14, _ => exact ⟨b14, by simp, fun W => by kernel_rfl⟩
  | 15, _ => exact ⟨b15, by simp, fun W => by kernel_rfl⟩
  | n + 16, h => exact absurd h (by omega)
end Go.Proofs.YtibgiohijknmbaaGreatDoor

/-
  ident.Of: sixteen bytes as text.
-/
namespace Go.Proofs.YtibgiohijknmbaaGreatDoor
open Go.RowKit
set_option linter.unusedVariables false
set_option linter.unusedSimpArgs false

theorem and15z (x : Int) (h0 : 0 ≤ x) (h1 : x ≤ 255) : 0 ≤ bits BinOp.and IntKind.u8 x 15 ∧ bits BinOp.and IntKind.u8 x 15 < 16 := by
  have h : ∀ n : Fin 256, 0 ≤ bits BinOp.and IntKind.u8 (n.val : Int) 15 ∧ bits BinOp.and IntKind.u8 (n.val : Int) 15 < 16 := by decide +kernel
  have := h ⟨x.toNat, by omega⟩
  rwa [show ((⟨x.toNat, by omega⟩ : Fin 256).val : Int) = x by simp; omega] at this
def goodB (c : UInt8) : Bool := (48 ≤ c && c ≤ 57) || (97 ≤ c && c ≤ 102) || c == 45
def hexS : ByteArray := ⟨#[48, 49, 50, 51, 52, 53, 54, 55, 56, 57, 97, 98, 99, 100, 101, 102]⟩
theorem news2 (a b : Int) (n : Nat) (X : World) (hX : X.heap[n]? = some (.cells #[.int .u8 a, .int .u8 b] 5 (0, 0))) : ∀ j u, ([.int .u8 a, .int .u8 b] : List Value)[j]? = some u → X.cell? ((⟨n, 0, none⟩ : Addr).add j) = some u := fun j u hu => by
  rw [addr_add0, Lib.cell_of_heap hX j, ← hu]
  simp
theorem hex_good (i : Nat) (h : i < hexS.size) : goodB (hexS[i]'h) = true := by
  have hh : ∀ n : Fin 16, goodB (hexS[n.val]'n.isLt) = true := by decide
  exact hh ⟨i, h⟩
def dashN (k : Nat) : Nat := (if 4 < k then 1 else 0) + (if 6 < k then 1 else 0) + (if 8 < k then 1 else 0) + (if 10 < k then 1 else 0)
set_option maxRecDepth 100000 in
set_option maxHeartbeats 2000000 in
theorem ident_c (b0 b1 b2 b3 b4 b5 b6 b7 b8 b9 b10 b11 b12 b13 b14 b15 : Int) (w : World) (y6 y8 : Int) (h6 : bits BinOp.or IntKind.u8 (bits BinOp.and IntKind.u8 b6 15) 64 = y6) (h8 : bits BinOp.or IntKind.u8 (bits BinOp.and IntKind.u8 b8 63) 128 = y8) (hy : ∀ x ∈ [b0, b1, b2, b3, b4, b5, y6, b7, y8, b9, b10, b11, b12, b13, b14, b15], 0 ≤ x ∧ x ≤ 255) :
    Calls Tryz.prog 67 #[.agg #[.int .u8 b0, .int .u8 b1, .int .u8 b2, .int .u8 b3, .int .u8 b4, .int .u8 b5, .int .u8 b6, .int .u8 b7, .int .u8 b8, .int .u8 b9, .int .u8 b10, .int .u8 b11, .int .u8 b12, .int .u8 b13, .int .u8 b14, .int .u8 b15]] w fun e w' => ∃ l : List UInt8, e = .returned (.string ⟨l.toArray⟩) ∧ l.length = 36 ∧ (∀ c ∈ l, goodB c = true) ∧ Below w.heap.size w w' := by
  obtain ⟨i0, hi, hz0, hz1, hz2⟩ := info_parts binfo
  have HY := Lib.hid hy
  clear hy
  go_enter Tryz.func67, Tryz.ntmps67
  go_wp2_with fail
  go_loopw [3, 17] (fun v i wr => ∃ (k : Nat) (l : List UInt8), k ≤ 16 ∧ i = .int .i64 k ∧ Hid (wr.ownsRow (w.heap.size + 1) 5 1 v l.length (byteV l)) ∧ Hid (l.length = 2 * k + dashN k) ∧ Hid (∀ c ∈ l, goodB c = true) ∧ Below w.heap.size w wr) (fun _ i _ => (16 - intOf i).toNat)
  case atStart => exact ⟨0, [], by omega, by simp, ⟨rfl, .inl ⟨rfl, rfl⟩⟩, rfl, (fun c hc => by cases hc), (Below.refl _ _).alloc (Nat.le_refl _) _⟩
  case round =>
    obtain ⟨k, l, hk, rfl, ho, hl, hg, hbl⟩ := hrel
    by_cases hlt : k < 16
    · obtain ⟨x, hx, hix⟩ := idx16 b0 b1 b2 b3 b4 b5 y6 b7 y8 b9 b10 b11 b12 b13 b14 b15 k hlt
      obtain ⟨x0, x1⟩ := HY.out x hx
      clear hx
      have xa : 0 ≤ x / 16 ∧ x / 16 < 16 := by omega
      have xb : 0 ≤ bits BinOp.and IntKind.u8 x 15 ∧ bits BinOp.and IntKind.u8 x 15 < 16 := and15z x x0 x1
      go_wp2_with fail
      refine (dash_c k wr).mono ?_
      rintro e w1 ⟨rfl, rfl⟩
      by_cases hd : ((k : Int) = 4 ∨ (k : Int) = 6 ∨ (k : Int) = 8 ∨ (k : Int) = 10)
      · have hdd : decide ((k : Int) = 4 ∨ (k : Int) = 6 ∨ (k : Int) = 8 ∨ (k : Int) = 10) = true := by simpa using hd
        rw [hdd]
        have hl36 : l.length ≤ 36 := by have := hl.out; unfold dashN at this; split at this <;> split at this <;> split at this <;> split at this <;> omega
        go_wp2_with (at_builtin; refine wpList_append_own _ rfl _ _ 29 rfl (w.heap.size + 1) 5 i0 (.int .u8 0) 1 1 Tryz.underlying29 hi hz0 hz1 hz2 rfl (by decide) _ l.length (byteV l) rfl (World.ownsRow.alloc ho.out _) ⟨w1.heap.size, 0, none⟩ 1 1 [.int .u8 45] rfl rfl ?c1 ?c2 ?c3 ?c4 ?c5 ?_)
        case c1 =>
          intro j u hj
          match j, hj with
          | 0, hj => simp at hj; subst hj; simp [Addr.add]
        case c2 => intro u hu; simp at hu; subst hu; rfl
        case c3 => unfold maxLen; omega
        case c4 => omega
        case c5 => have := hbl.size; simp; omega
        intro v' w2 hown' hgrow _
        have hbw : Below w.heap.size w w2 := (hbl.alloc hbl.size (.cells #[.int .u8 45] 5)).grown hgrow (by have := hbl.size; simp; omega) (fun q hq => by have := (ho.out.lt q hq).1; omega)
        have HO2 := Lib.hid hown'
        clear hown' hgrow
        go_wp2_with fail
        go_region_law (refine step_append_lies _ (by rfl) (.tmp 26) (.tmp 33) 29 (by rfl) (w.heap.size + 1) 5 i0 _ 1 1 Tryz.underlying29 hi hz0 hz1 hz2 rfl (by omega) v' (l.length + 1) (byteV l ++ [.int .u8 45]) (by rfl) ((World.ownsRow.alloc HO2.out _).drew) ⟨w2.heap.size, 0, none⟩ 2 2 [.int .u8 (hexS[(x / 16).toNat]'(by show _ < 16; omega)).toNat, .int .u8 (hexS[(bits BinOp.and IntKind.u8 x 15).toNat]'(by show _ < 16; omega)).toNat] (by rfl) (by rfl) (news2 _ _ _ _ (heap_last _ _)) (by simp [Value.oneCell']) (by omega) (by unfold maxLen; omega) (by omega) (by have := hbl.size; have := hbw.size; simp; omega) (w2.heap.size + 1) (by simp) ?_; intro gg c1 w4 hown4 hgrow4 hat4 hlt4)
        all_goals
          have hbx : Below w.heap.size w w4 := ((hbw.alloc hbw.size (.cells #[.int .u8 (hexS[(x / 16).toNat]'(by show _ < 16; omega)).toNat, .int .u8 (hexS[(bits BinOp.and IntKind.u8 x 15).toNat]'(by show _ < 16; omega)).toNat] 5)).drew).grown hgrow4 (by have := hbw.size; simp; omega) (fun q hq => by have := (HO2.out.lt q hq).1; omega)
          have HO4 := Lib.hid hown4
          clear hown4 hgrow4 hat4
          go_wp2_with fail
          refine ⟨⟨k + 1, l ++ [45] ++ [hexS[(x / 16).toNat]'(by show _ < 16; omega), hexS[(bits BinOp.and IntKind.u8 x 15).toNat]'(by show _ < 16; omega)], by omega, by go_num, ?_, ?_, ?_, hbx⟩, by simp [intOf]; omega⟩
          · have := HO4.out
            refine Lib.hid ?_
            simpa [byteV, Nat.add_assoc] using this
          · have := hl.out
            refine Lib.hid ?_
            simp only [List.length_append, List.length_cons, List.length_nil]
            rw [this]
            unfold dashN
            rcases hd with hd | hd | hd | hd <;> (obtain rfl : k = _ := Int.ofNat.inj hd) <;> rfl
          · have hgo := hg.out
            refine Lib.hid ?_
            intro c hc
            simp only [List.mem_append, List.mem_cons, List.mem_nil_iff, or_false] at hc
            rcases hc with (hc | rfl) | rfl | rfl
            · exact hgo c hc
            · rfl
            · exact hex_good _ _
            · exact hex_good _ _
      · have hdd : decide ((k : Int) = 4 ∨ (k : Int) = 6 ∨ (k : Int) = 8 ∨ (k : Int) = 10) = false := by simpa using hd
        rw [hdd]
        have hl36 : l.length ≤ 36 := by have := hl.out; unfold dashN at this; split at this <;> split at this <;> split at this <;> split at this <;> omega
        go_wp2_with fail
        go_region_law (refine step_append_lies _ (by rfl) (.tmp 26) (.tmp 33) 29 (by rfl) (w.heap.size + 1) 5 i0 _ 1 1 Tryz.underlying29 hi hz0 hz1 hz2 rfl (by omega) _ l.length (byteV l) (by rfl) ((World.ownsRow.alloc ho.out _).drew) ⟨w1.heap.size, 0, none⟩ 2 2 [.int .u8 (hexS[(x / 16).toNat]'(by show _ < 16; omega)).toNat, .int .u8 (hexS[(bits BinOp.and IntKind.u8 x 15).toNat]'(by show _ < 16; omega)).toNat] (by rfl) (by rfl) (news2 _ _ _ _ (heap_last _ _)) (by simp [Value.oneCell']) (by omega) (by unfold maxLen; omega) (by omega) (by have := hbl.size; have := hbl.size; simp; omega) (w1.heap.size + 1) (by simp) ?_; intro gg c1 w4 hown4 hgrow4 hat4 hlt4)
        all_goals
          have hbx : Below w.heap.size w w4 := ((hbl.alloc hbl.size (.cells #[.int .u8 (hexS[(x / 16).toNat]'(by show _ < 16; omega)).toNat, .int .u8 (hexS[(bits BinOp.and IntKind.u8 x 15).toNat]'(by show _ < 16; omega)).toNat] 5)).drew).grown hgrow4 (by have := hbl.size; simp; omega) (fun q hq => by have := (ho.out.lt q hq).1; omega)
          have HO4 := Lib.hid hown4
          clear hown4 hgrow4 hat4
          go_wp2_with fail
          refine ⟨⟨k + 1, l ++ [hexS[(x / 16).toNat]'(by show _ < 16; omega), hexS[(bits BinOp.and IntKind.u8 x 15).toNat]'(by show _ < 16; omega)], by omega, by go_num, ?_, ?_, ?_, hbx⟩, by simp [intOf]; omega⟩
          · have := HO4.out
            refine Lib.hid ?_
            simpa [byteV, Nat.add_assoc] using this
          · have := hl.out
            refine Lib.hid ?_
            simp only [List.length_append, List.length_cons, List.length_nil]
            rw [this]
            unfold dashN
            (split <;> split <;> split <;> split <;> split <;> split <;> split <;> split <;> omega)
          · have hgo := hg.out
            refine Lib.hid ?_
            intro c hc
            simp only [List.mem_append, List.mem_cons, List.mem_nil_iff, or_false] at hc
            rcases hc with hc | rfl | rfl
            · exact hgo c hc
            · exact hex_good _ _
            · exact hex_good _ _
    · obtain rfl : k = 16 := by omega
      have hcv := conv_own ho.out
      go_wp2_with fail
      go_ret
      exact ⟨l, rfl, by rw [hl.out]; rfl, hg.out, hbl⟩
end Go.Proofs.YtibgiohijknmbaaGreatDoor
