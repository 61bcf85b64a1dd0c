/-
  Joined texts: Reg, Args.
-/
import Derived.Test.YtibgiohijknmbaaGreatDoorM19
import Derived.Test.YtibgiohijknmbaaGreatDoorM11
import Derived.Deep.RegionLaw
import Derived.Deep.AppendLies
import Derived.OneCell
import Derived.Deep.MidRow
import Derived.Test.YtibgiohijknmbaaGreatDoorM16
/-
  store.Register of an opaque origin, into an empty store.
-/
namespace Go.Proofs.YtibgiohijknmbaaGreatDoor
open Go.RowKit
set_option linter.unusedVariables false
set_option linter.unusedSimpArgs false

abbrev stoTs : List TypeId := [135, 137]
def rndA (b0 b1 b2 b3 b4 b5 b6 b7 b8 b9 b10 b11 b12 b13 b14 b15 : Int) : Array Value := #[.int .u8 b0, .int .u8 b1, .int .u8 b2, .int .u8 b3, .int .u8 b4, .int .u8 b5, .int .u8 b6, .int .u8 b7, .int .u8 b8, .int .u8 b9, .int .u8 b10, .int .u8 b11, .int .u8 b12, .int .u8 b13, .int .u8 b14, .int .u8 b15]
theorem rnd_range (W : World) (n : Nat) (cs : List Value) {T : TypeId} (h : W.heap[n]? = some (.cells cs.toArray T (0, 0))) : W.rangeAt n 0 cs := fun j v hj => by
  rw [Nat.zero_add, Lib.cell_of_heap h j, ← hj]
  simp
theorem or64 (x : Int) (h0 : 0 ≤ x) (h1 : x ≤ 255) : 0 ≤ bits BinOp.or IntKind.u8 (bits BinOp.and IntKind.u8 x 15) 64 ∧ bits BinOp.or IntKind.u8 (bits BinOp.and IntKind.u8 x 15) 64 ≤ 255 := by
  have h : ∀ n : Fin 256, 0 ≤ bits BinOp.or IntKind.u8 (bits BinOp.and IntKind.u8 (n.val : Int) 15) 64 ∧ bits BinOp.or IntKind.u8 (bits BinOp.and IntKind.u8 (n.val : Int) 15) 64 ≤ 255 := by decide +kernel
  have := h ⟨x.toNat, by omega⟩
  rwa [show ((⟨x.toNat, by omega⟩ : Fin 256).val : Int) = x by simp; omega] at this
theorem or128 (x : Int) (h0 : 0 ≤ x) (h1 : x ≤ 255) : 0 ≤ bits BinOp.or IntKind.u8 (bits BinOp.and IntKind.u8 x 63) 128 ∧ bits BinOp.or IntKind.u8 (bits BinOp.and IntKind.u8 x 63) 128 ≤ 255 := by
  have h : ∀ n : Fin 256, 0 ≤ bits BinOp.or IntKind.u8 (bits BinOp.and IntKind.u8 (n.val : Int) 63) 128 ∧ bits BinOp.or IntKind.u8 (bits BinOp.and IntKind.u8 (n.val : Int) 63) 128 ≤ 255 := by decide +kernel
  have := h ⟨x.toNat, by omega⟩
  rwa [show ((⟨x.toNat, by omega⟩ : Fin 256).val : Int) = x by simp; omega] at this
theorem ident_of (b0 b1 b2 b3 b4 b5 b6 b7 b8 b9 b10 b11 b12 b13 b14 b15 : Int) (w : World) (hy : ∀ x ∈ [b0, b1, b2, b3, b4, b5, b6, b7, b8, b9, b10, b11, b12, b13, b14, b15], 0 ≤ x ∧ x ≤ 255) :
    Calls Tryz.prog 67 #[.agg (rndA b0 b1 b2 b3 b4 b5 b6 b7 b8 b9 b10 b11 b12 b13 b14 b15)] w fun e w' => ∃ l : List UInt8, e = .returned (.string ⟨l.toArray⟩) ∧ l.length = 36 ∧ (∀ c ∈ l, goodB c = true) ∧ Below w.heap.size w w' := by
  obtain ⟨z0, z1⟩ := hy b6 (by simp)
  obtain ⟨z2, z3⟩ := hy b8 (by simp)
  have a6 := or64 b6 z0 z1
  have a8 := or128 b8 z2 z3
  refine ident_c b0 b1 b2 b3 b4 b5 b6 b7 b8 b9 b10 b11 b12 b13 b14 b15 w _ _ rfl rfl ?_
  intro x hx
  simp only [List.mem_cons, List.mem_nil_iff, or_false] at hx
  rcases hx with rfl | rfl | rfl | rfl | rfl | rfl | rfl | rfl | rfl | rfl | rfl | rfl | rfl | rfl | rfl | rfl
  all_goals first | exact a6 | exact a8 | exact hy _ (by simp)

theorem right_no (oh : ByteArray) (op on : Int) (w : World) :
    Calls Tryz.prog 65 #[.agg (oriV ⟨#[]⟩ oh op on)] w fun e w' => e = .returned (.bool true) ∧ Below w.heap.size w w' := by
  have hb0 : Below w.heap.size w (w.alloc (.cells (oriV ⟨#[]⟩ oh op on) 23)) := (Below.refl _ _).alloc (Nat.le_refl _) _
  have ht := tuple_no oh op on (w.alloc (.cells (oriV ⟨#[]⟩ oh op on) 23))
  unfold oriV at ht hb0 ⊢
  go_enter Tryz.func65, Tryz.ntmps65
  go_wp2_with fail
  refine ht.mono ?_
  rintro e w1 ⟨rfl, hb1⟩
  go_wp2_with fail
  go_ret
  exact ⟨rfl, hb0.trans (hb1.mono hb0.size)⟩

theorem seinfo : (Tryz.prog.info? 137).map (fun i => (i.zero, i.size, i.bytes)) = some (some (.agg #[.string ByteArray.empty, .string ByteArray.empty, .string ByteArray.empty, .int .i64 0, .int .i64 0, .pointer none]), 6, 72) := by kernel_rfl
/-- The world behind the append. -/
theorem sreg_close (B sb : Nat) (ss : List SEnt) (room : Int) (en : SEnt) (cap : Nat) (a : Option Addr) (w W w1 : World) (gg c1 : Nat) (o : Obj) (hBw : B ≤ w.heap.size) (hBt : B ≤ sb) (hlw : sb < w.heap.size) (hn : ss.length < 64)
    (hb : Below w.heap.size w W)
    (hv : W.heap[sb]? = some (.cells #[.slice a ss.length cap, .int .i64 room] 135 (0, 0)))
    (ho : RowS W B (.slice a ss.length cap) ss) (hbl : (Value.slice a ss.length cap).ownBlock ≠ some sb) (hgrow : ((W.alloc o).drew).grownBy w1 (Value.slice a ss.length cap).ownBlock)
    (hown1 : w1.ownsRow B 137 6 (.slice (some ⟨gg, 0, none⟩) (ss.length + 1) c1) (ss.length + 1) (sentV ss ++ en.vals))
    (hat : (Value.slice a ss.length cap).ownBlock = some gg ∨ gg = W.heap.size + 1) :
    StoreAt (w1.setCell ⟨sb, 0, none⟩ (.slice (some ⟨gg, 0, none⟩) (ss.length + 1) c1)) B sb (ss ++ [en]) room ∧ Below B w (w1.setCell ⟨sb, 0, none⟩ (.slice (some ⟨gg, 0, none⟩) (ss.length + 1) c1)) ∧
      TyKept stoTs w (w1.setCell ⟨sb, 0, none⟩ (.slice (some ⟨gg, 0, none⟩) (ss.length + 1) c1)) ∧ ChKept w (w1.setCell ⟨sb, 0, none⟩ (.slice (some ⟨gg, 0, none⟩) (ss.length + 1) c1)) := by
  have hlW : sb < W.heap.size := Nat.lt_of_lt_of_le hlw hb.size
  have hgt : gg ≠ sb := by
    rcases hat with h | h
    · intro e; rw [e] at h; exact hbl h
    · omega
  have hsz : ((W.alloc o).drew).heap.size = W.heap.size + 1 := by simp
  have hold : ∀ k, k < W.heap.size → some k ≠ (Value.slice a ss.length cap).ownBlock → w1.heap[k]? = W.heap[k]? := fun k hk hne => (hgrow.block k (by omega) hne).trans (Below.heap_alloc W o k hk)
  have hvt : w1.heap[sb]? = some (.cells #[.slice a ss.length cap, .int .i64 room] 135 (0, 0)) := (hold sb hlW (fun e => hbl e.symm)).trans hv
  have hother : ∀ k, k < w.heap.size → k ≠ sb → some k ≠ (Value.slice a ss.length cap).ownBlock → (w1.setCell ⟨sb, 0, none⟩ (.slice (some ⟨gg, 0, none⟩) (ss.length + 1) c1)).heap[k]? = w.heap[k]? := fun k hk h1 h2 => by
    rw [heap_setCell_other _ _ _ _ h1, hold k (Nat.lt_of_lt_of_le hk hb.size) h2, hb.block k hk]
  refine ⟨⟨hBt, by rw [List.length_append]; simp; omega, _, heap_setCell_same w1 sb 0 _ _ _ hvt, ?_⟩, ?_, ?_, ?_⟩
  · unfold RowS
    rw [List.length_append]
    have e : sentV (ss ++ [en]) = sentV ss ++ en.vals := by simp [sentV]
    rw [e]
    exact ownsRow_setCell_other hown1 (by simp [Value.ownBlock]; exact hgt) _
  · have h3 : Below B w ((W.alloc o).drew) := ((hb.mono hBw).alloc (Nat.le_trans hBw hb.size) o).drew
    exact (h3.grown hgrow (Nat.le_trans (Nat.le_trans hBw hb.size) (by omega)) (fun q hq => (ho.lt q hq).1)).setCell hBt _
  · intro k c T fz hk hT
    have hkl : k < w.heap.size := (Array.getElem?_eq_some_iff.1 hk).1
    refine hother k hkl ?_ ?_
    · rintro rfl
      rw [hb.block k hkl, hk] at hv
      injection Option.some.inj hv with _ h2
      exact hT (by simp [h2])
    · intro e
      obtain ⟨cells, hc⟩ := own_typed2 ho k e.symm
      rw [hb.block k hkl, hk] at hc
      injection Option.some.inj hc with _ h2
      exact hT (by simp [h2])
  · intro k cp buf cl s r tm hk
    have hkl : k < w.heap.size := (Array.getElem?_eq_some_iff.1 hk).1
    refine hother k hkl ?_ ?_
    · rintro rfl
      rw [hb.block k hkl, hk] at hv
      cases Option.some.inj hv
    · intro e
      obtain ⟨cells, hc⟩ := own_typed2 ho k e.symm
      rw [hb.block k hkl, hk] at hc
      cases Option.some.inj hc

def blobNull : List UInt8 := [98, 108, 111, 98, 58, 110, 117, 108, 108, 47]
def nameOf (l : List UInt8) : ByteArray := bstr (blobNull ++ l)
def SRegOk (B sb : Nat) (room : Int) (oh : ByteArray) (op on : Int) (blk : Nat) (w : World) (e : Ending) (w' : World) : Prop :=
  ∃ l : List UInt8, l.length = 36 ∧ (∀ c ∈ l, goodB c = true) ∧ e = .returned (.tuple #[.string (nameOf l), .int .i64 0]) ∧ StoreAt w' B sb [⟨nameOf l, ⟨#[]⟩, oh, op, on, blk⟩] room ∧ Below B w w' ∧ TyKept stoTs w w' ∧ ChKept w w'
set_option maxRecDepth 100000 in
set_option maxHeartbeats 4000000 in
theorem sreg_c (B sb : Nat) (room : Int) (oh : ByteArray) (op on : Int) (blk : Nat) (b0 b1 b2 b3 b4 b5 b6 b7 b8 b9 b10 b11 b12 b13 b14 b15 : Int) (w : World) (hy : ∀ x ∈ [b0, b1, b2, b3, b4, b5, b6, b7, b8, b9, b10, b11, b12, b13, b14, b15], 0 ≤ x ∧ x ≤ 255) (hBw : B ≤ w.heap.size) (hT : StoreAt w B sb [] room) (hr : 1 ≤ room) :
    Calls Tryz.prog 31 #[.pointer (some ⟨sb, 0, none⟩), .agg (oriV ⟨#[]⟩ oh op on), .pointer (some ⟨blk, 0, none⟩), .agg (rndA b0 b1 b2 b3 b4 b5 b6 b7 b8 b9 b10 b11 b12 b13 b14 b15)] w (SRegOk B sb room oh op on blk w) := by
  have hlw := hT.lt
  have hs1 : (w.alloc (.cells (oriV ⟨#[]⟩ oh op on) 23)).heap.size = w.heap.size + 1 := by simp
  have ho0 : ((w.alloc (.cells (oriV ⟨#[]⟩ oh op on) 23)).alloc (.cells (rndA b0 b1 b2 b3 b4 b5 b6 b7 b8 b9 b10 b11 b12 b13 b14 b15) 33)).heap[w.heap.size]? = some (.cells (oriV ⟨#[]⟩ oh op on) 23 (0, 0)) := by
    rw [Below.heap_alloc _ _ _ (by rw [hs1]; omega)]
    exact heap_last _ _
  have ha0 : ((w.alloc (.cells (oriV ⟨#[]⟩ oh op on) 23)).alloc (.cells (rndA b0 b1 b2 b3 b4 b5 b6 b7 b8 b9 b10 b11 b12 b13 b14 b15) 33)).heap[w.heap.size + 1]? = some (.cells (rndA b0 b1 b2 b3 b4 b5 b6 b7 b8 b9 b10 b11 b12 b13 b14 b15) 33 (0, 0)) := by
    have := heap_last (w.alloc (.cells (oriV ⟨#[]⟩ oh op on) 23)) (.cells (rndA b0 b1 b2 b3 b4 b5 b6 b7 b8 b9 b10 b11 b12 b13 b14 b15) 33)
    rw [hs1] at this
    exact this
  have hb0 : Below w.heap.size w ((w.alloc (.cells (oriV ⟨#[]⟩ oh op on) 23)).alloc (.cells (rndA b0 b1 b2 b3 b4 b5 b6 b7 b8 b9 b10 b11 b12 b13 b14 b15) 33)) := ((Below.refl _ _).alloc (Nat.le_refl _) _).alloc (by rw [hs1]; omega) _
  have hst := seinfo
  obtain ⟨i0, hi, hz0, hz1, hz2⟩ := info_parts hst
  clear hst
  have hT0 := Lib.hid (hT.later hb0)
  have hri := fun W => right_no oh op on W
  have hpr := fun W => oprint_no oh op on W
  have hid := fun W => ident_of b0 b1 b2 b3 b4 b5 b6 b7 b8 b9 b10 b11 b12 b13 b14 b15 W hy
  obtain ⟨W0, hW0⟩ : ∃ W, W = ((w.alloc (.cells (oriV ⟨#[]⟩ oh op on) 23)).alloc (.cells (rndA b0 b1 b2 b3 b4 b5 b6 b7 b8 b9 b10 b11 b12 b13 b14 b15) 33)) := ⟨_, rfl⟩
  rw [← hW0] at ho0 ha0 hb0 hT0
  unfold oriV at hW0 hri hpr ho0 ⊢
  unfold rndA at hW0 hid ha0 ⊢
  have HW : Hid (((w.alloc (.cells #[.string ⟨#[]⟩, .string oh, .int .i64 op, .int .i64 on] 23)).alloc (.cells #[.int .u8 b0, .int .u8 b1, .int .u8 b2, .int .u8 b3, .int .u8 b4, .int .u8 b5, .int .u8 b6, .int .u8 b7, .int .u8 b8, .int .u8 b9, .int .u8 b10, .int .u8 b11, .int .u8 b12, .int .u8 b13, .int .u8 b14, .int .u8 b15] 33)) = W0) := Lib.hid hW0.symm
  have HB0 := Lib.hid hb0
  have KP : Hid (∀ W, Below W0.heap.size W0 W → W.cell? ⟨w.heap.size, 0, none⟩ = some (.string ⟨#[]⟩) ∧ W.cell? ⟨w.heap.size, 1, none⟩ = some (.string oh) ∧ W.cell? ⟨w.heap.size, 2, none⟩ = some (.int .i64 op) ∧ W.cell? ⟨w.heap.size, 3, none⟩ = some (.int .i64 on) ∧ W.rangeAt (w.heap.size + 1) 0 [.int .u8 b0, .int .u8 b1, .int .u8 b2, .int .u8 b3, .int .u8 b4, .int .u8 b5, .int .u8 b6, .int .u8 b7, .int .u8 b8, .int .u8 b9, .int .u8 b10, .int .u8 b11, .int .u8 b12, .int .u8 b13, .int .u8 b14, .int .u8 b15]) := Lib.hid fun W hb => by
    have h := (hb.block _ (Array.getElem?_eq_some_iff.1 ho0).1).trans ho0
    have h' := (hb.block _ (Array.getElem?_eq_some_iff.1 ha0).1).trans ha0
    exact ⟨Lib.cell_of_heap h 0, Lib.cell_of_heap h 1, Lib.cell_of_heap h 2, Lib.cell_of_heap h 3, rnd_range _ _ _ h'⟩
  have hlA : w.heap.size + 1 < W0.heap.size := (Array.getElem?_eq_some_iff.1 ha0).1
  have KL : Hid (∀ W, Below W0.heap.size W0 W → w.heap.size + 1 < W.heap.size ∧ w.heap.size < W.heap.size) := Lib.hid fun W hb => by have := hb.size; omega
  clear hW0 ho0 ha0 hs1 hT hb0 hy hlA
  have e1 : ∀ W, (Op.stringOp .add ⟨#[98, 108, 111, 98, 58]⟩ nullS).run Tryz.prog W = .ok (.string ⟨#[98, 108, 111, 98, 58, 110, 117, 108, 108]⟩) W := fun W => run_string_add_sum W ⟨#[98, 108, 111, 98, 58]⟩ nullS (by decide)
  have e2 : ∀ W, (Op.stringOp .add ⟨#[98, 108, 111, 98, 58, 110, 117, 108, 108]⟩ ⟨#[47]⟩).run Tryz.prog W = .ok (.string ⟨#[98, 108, 111, 98, 58, 110, 117, 108, 108, 47]⟩) W := fun W => run_string_add_sum W ⟨#[98, 108, 111, 98, 58, 110, 117, 108, 108]⟩ ⟨#[47]⟩ (by decide)
  have hu16 : Tryz.prog.underlying 33 = some (.array 16 5) := Tryz.underlying33
  have hi16 : (Tryz.prog.info? 33).map (·.size) = some ([.int .u8 b0, .int .u8 b1, .int .u8 b2, .int .u8 b3, .int .u8 b4, .int .u8 b5, .int .u8 b6, .int .u8 b7, .int .u8 b8, .int .u8 b9, .int .u8 b10, .int .u8 b11, .int .u8 b12, .int .u8 b13, .int .u8 b14, .int .u8 b15] : List Value).length := by kernel_rfl
  go_enter Tryz.func31, Tryz.ntmps31
  obtain ⟨q0, q1, q2, q3, q4⟩ := KP.out W0 (Below.refl _ _)
  go_wp2_with (rw [HW.out])
  refine (hri _).mono ?_
  rintro e w1 ⟨rfl, hb1⟩
  clear HW q0 q1 q2 q3 q4
  obtain ⟨q0, q1, q2, q3, q4⟩ := KP.out w1 hb1
  obtain ⟨l1, l2⟩ := KL.out w1 hb1
  have HB1 := Lib.hid hb1
  clear hb1 hri
  go_wp2_with fail
  go_region_held3 (fun W => W.cell? ⟨w.heap.size, 0, none⟩ = some (.string ⟨#[]⟩) ∧ W.cell? ⟨w.heap.size, 1, none⟩ = some (.string oh) ∧ W.cell? ⟨w.heap.size, 2, none⟩ = some (.int .i64 op) ∧ W.cell? ⟨w.heap.size, 3, none⟩ = some (.int .i64 on) ∧ W.rangeAt (w.heap.size + 1) 0 [.int .u8 b0, .int .u8 b1, .int .u8 b2, .int .u8 b3, .int .u8 b4, .int .u8 b5, .int .u8 b6, .int .u8 b7, .int .u8 b8, .int .u8 b9, .int .u8 b10, .int .u8 b11, .int .u8 b12, .int .u8 b13, .int .u8 b14, .int .u8 b15]) (first | go_keep | (exact KP.out _ (HB1.out.trans ((un_drew hbp).mono HB1.out.size))) | (exact KP.out _ ((HB1.out.trans ((un_drew hbp).mono HB1.out.size)).trans (hbi.mono (HB1.out.trans ((un_drew hbp).mono HB1.out.size)).size))))
    (first | (go_at_call 66; refine (hpr _).mono ?_; rintro e wp ⟨rfl, hbp⟩) | (go_at_call 67; refine (hid _).mono ?_; rintro e wi ⟨l, rfl, hlen, hgood, hbi⟩))
  have hbpw := un_drew hbp
  have hB := HB1.out.trans (hbpw.mono HB1.out.size)
  have HBI := Lib.hid (hB.trans (hbi.mono hB.size))
  have hnm : (⟨#[98, 108, 111, 98, 58, 110, 117, 108, 108, 47]⟩ : ByteArray) ++ ⟨l.toArray⟩ = nameOf l := by
    apply ByteArray.ext
    simp [nameOf, blobNull, bstr, ByteArray.data_append]
  rw [hnm]
  obtain ⟨nm, hnm2⟩ : ∃ nm, nm = nameOf l := ⟨_, rfl⟩
  rw [← hnm2]
  have HNM := Lib.hid hnm2
  have HLG := Lib.hid (And.intro hlen hgood)
  have hT1 := Lib.hid (hT0.out.later HBI.out)
  clear hnm hnm2 hlen hgood hbp hbpw hB hbi q0 q1 q2 q3 q4 e1 e2 hpr hid hu16 hi16 l1 l2
  go_wp2_with fail
  have hf := sfind_c B sb [] room nm wi hT1.out
  rw [show firstS (fun e => bEq e.url nm) [] = -1 from rfl] at hf
  refine hf.mono ?_
  rintro e w4 ⟨rfl, hb4⟩
  have hB4 := HBI.out.trans (hb4.mono HBI.out.size)
  obtain ⟨q0, q1, q2, q3, _⟩ := KP.out w4 hB4
  obtain ⟨l1, l2⟩ := KL.out w4 hB4
  have hT4 := hT1.out.later hb4
  have HB4 := Lib.hid hB4
  clear hf hb4 hB4
  obtain ⟨hBt, _, lv, hv, ho⟩ := hT4
  obtain ⟨a, cap, hlv⟩ : ∃ a cap, lv = .slice a 0 cap := by
    rcases ho.2 with ⟨hlv, h0⟩ | ⟨g, cap, cur, hlv, _⟩
    · exact ⟨none, 0, hlv⟩
    · exact ⟨_, cap, hlv⟩
  have hbl : lv.ownBlock ≠ some sb := by
    intro e
    rcases ho.2 with ⟨hlv, h0⟩ | ⟨g, cap, cur, hlv, hg, hhp, hnc, hm, hs, ht⟩
    · rw [hlv] at e; cases e
    · rw [hlv] at e
      have : g = sb := Option.some.inj e
      subst this
      rw [hv] at hhp
      injection Option.some.inj hhp with _ h2
      exact absurd h2 (by decide)
  subst hlv
  have c0 : w4.cell? ⟨sb, 0, none⟩ = some (.slice a 0 cap) := Lib.cell_of_heap hv 0
  have c1 : w4.cell? ⟨sb, 1, none⟩ = some (.int .i64 room) := Lib.cell_of_heap hv 1
  have hrb : ((0 : Int) == room) = false := by
    rw [beq_eq_false_iff_ne]; omega
  have HV := Lib.hid hv
  have HO := Lib.hid ho
  have HBL := Lib.hid hbl
  clear hv ho hbl
  go_wp2_with fail
  go_quiet (fail)
  go_wp2_with fail
  have hv2 : (w4.drewN nq).heap[sb]? = some (.cells #[.slice a 0 cap, .int .i64 room] 135 (0, 0)) := HV.out
  have ho2 : RowS (w4.drewN nq) B (.slice a 0 cap) [] := own_later HO.out (below_drewN w4 nq)
  have hbz : Below w.heap.size w (w4.drewN nq) := HB0.out.trans ((HB4.out.trans ((below_drewN w4 nq).mono HB4.out.size)).mono HB0.out.size)
  have m0 : (w4.drewN nq).cell? ⟨w.heap.size, 0, none⟩ = some (.string ⟨#[]⟩) := q0
  have m1 : (w4.drewN nq).cell? ⟨w.heap.size, 1, none⟩ = some (.string oh) := q1
  have m2 : (w4.drewN nq).cell? ⟨w.heap.size, 2, none⟩ = some (.int .i64 op) := q2
  have m3 : (w4.drewN nq).cell? ⟨w.heap.size, 3, none⟩ = some (.int .i64 on) := q3
  have l1' : w.heap.size + 1 < (w4.drewN nq).heap.size := l1
  generalize w4.drewN nq = W at *
  have d0 : W.cell? ⟨sb, 0, none⟩ = some (.slice a 0 cap) := Lib.cell_of_heap hv2 0
  have fz2 := fun j => frozen_of_row W sb j _ _ hv2
  have hlt2 : sb < W.heap.size := (Array.getElem?_eq_some_iff.1 hv2).1
  have HV2 := Lib.hid hv2
  have HO2 := Lib.hid ho2
  have HBZ := Lib.hid hbz
  clear hv2 ho2 hbz c0 c1 q0 q1 q2 q3 l1 l2
  have hnews : Hid (∀ (n : Nat) (X : World), X.heap[n]? = some (.cells #[.string nm, .string ⟨#[]⟩, .string oh, .int .i64 op, .int .i64 on, .pointer (some ⟨blk, 0, none⟩)] 137 (0, 0)) → ∀ j u, ([.string nm, .string ⟨#[]⟩, .string oh, .int .i64 op, .int .i64 on, .pointer (some ⟨blk, 0, none⟩)] : List Value)[j]? = some u → X.cell? ((⟨n, 0, none⟩ : Addr).add j) = some u) := Lib.hid fun n X hX j u hu => by
    rw [addr_add0, Lib.cell_of_heap hX j, ← hu]
    simp
  go_region_law (refine step_append_lies _ (by rfl) (.tmp 45) (.tmp 50) 133 (by rfl) B 137 i0 _ 6 72 Tryz.underlying133 hi hz0 hz1 hz2 rfl (by omega) (.slice a 0 cap) 0 [] (by rfl) ((World.ownsRow.alloc HO2.out _).drew) ⟨W.heap.size, 0, none⟩ 1 1 [.string nm, .string ⟨#[]⟩, .string oh, .int .i64 op, .int .i64 on, .pointer (some ⟨blk, 0, none⟩)] (by rfl) (by rfl) (hnews.out _ _ (heap_last _ _)) (by simp [Value.oneCell']) (by omega) (by unfold maxLen; omega) (by omega) (by simp; omega) (W.heap.size + 1) (by simp) ?_; intro gg c1 w1 hown1 hgrow hat hlt1; have q0 : w1.cell? ⟨sb, 0, none⟩ = some (.slice a 0 cap) := (hgrow.cell_far ⟨sb, 0, none⟩ (by simp; omega) (fun e => HBL.out e.symm)).trans ((World.cell?_of_block (w := W) (Below.heap_alloc _ _ _ hlt2)).trans d0); have qz : w1.frozen? ⟨sb, 0, none⟩ = false := (hgrow.frozen_far ⟨sb, 0, none⟩ (by simp; omega) (fun e => HBL.out e.symm)).trans ((World.frozen?_of_block (w := W) (Below.heap_alloc _ _ _ hlt2)).trans (fz2 0)))
  all_goals
    have HC := Lib.hid (sreg_close B sb [] room ⟨nm, ⟨#[]⟩, oh, op, on, blk⟩ cap a w W w1 gg c1 _ hBw hBt hlw (by decide) HBZ.out HV2.out HO2.out HBL.out hgrow hown1 hat)
    clear hown1 hgrow hat
    go_wp2_with fail
    go_ret2
    obtain ⟨x1, x2, x3, x4⟩ := HC.out
    refine ⟨l, HLG.out.1, HLG.out.2, by rw [← HNM.out]; rfl, ?_, x2, x3, x4⟩
    rw [← HNM.out]
    exact x1
end Go.Proofs.YtibgiohijknmbaaGreatDoor

/-
  Arguments laid open: a slice of bytes, an array of sixteen bytes.
-/
namespace Go.Proofs.YtibgiohijknmbaaGreatDoor
open Go.RowKit Go.Shelf Go.Lib
open Go.ChangeShapes Go.WideShapes
set_option linter.unusedVariables false
set_option maxRecDepth 100000
set_option linter.unusedSimpArgs false

theorem src_of {H : Type} {enc : TypeId × Value → H} {W : World} {b base fuel : Nat} {spare : Nat → Bool} {held : Bool} {v : Value} {x : DataW H × List MemPlace} (hok : Value.okWide Tryz.prog W .any b 29 v)
    (hf : DataW.trod enc Tryz.prog W base spare held fuel 29 v.cells.toList = some x) : ∃ a cap l, v = .slice a (List.length l) cap ∧ SrcAt W a cap l := by
  obtain ⟨a0, len, cap, rfl⟩ := okWide_slice Tryz.underlying29 hok
  rcases open_ints (k := .u8) Tryz.underlying29 Tryz.underlying5 (by kernel_rfl) hf with ⟨hcs, hx⟩ | ⟨a, len', cap', zs, hcs, _, hl, hm, hz, hx, hcell, hwz⟩
  · have : [Value.slice a0 len cap] = [.slice none 0 0] := hcs
    injection this with h _
    injection h with h1 h2 h3
    subst h1 h2 h3
    exact ⟨none, 0, [], rfl, Or.inl ⟨rfl, rfl, rfl⟩⟩
  · have : [Value.slice a0 len cap] = [.slice (some a) len' cap'] := hcs
    injection this with h _
    injection h with h1 h2 h3
    subst h1 h2 h3
    have hh : W.has Tryz.prog .any b a 5 cap := by
      have h := hok
      simp only [Value.okWide, Tryz.underlying29, Cell.okWide, Cell.ok] at h
      exact h.2.2
    obtain ⟨_, hspot, row, cells, hsh, _⟩ := hh
    obtain ⟨blk, off, spot⟩ := a
    simp only at hspot
    subst hspot
    have hlt : blk < W.heap.size := by
      rcases Nat.lt_or_ge blk W.heap.size with h' | h'
      · exact h'
      · simp [World.shape?, Array.getElem?_eq_none h'] at hsh
    have hlen : len ≤ zs.length := by rw [hz]; split <;> omega
    refine ⟨_, cap, (zs.take len).map fun n => UInt8.ofNat n.toNat, by rw [List.length_map, List.length_take, Nat.min_eq_left hlen], Or.inr ⟨blk, off, rfl, ?_, hlt⟩⟩
    intro j hj
    have hj' : j < len := by rw [List.length_map, List.length_take] at hj; omega
    have hjz : j < zs.length := by omega
    have hc := hcell j hjz
    have ea : (⟨blk, off, none⟩ : Addr).add j = ⟨blk, off + j, none⟩ := addr_addn blk off j
    rw [ea] at hc
    have hw := bounds_u8 (hwz (zs[j]'hjz) (List.getElem_mem hjz))
    rw [hc, List.getD_eq_getElem?_getD, List.getElem?_eq_getElem hjz, List.getD_eq_getElem?_getD, List.getElem?_eq_getElem hj]
    simp
    omega
theorem cell_u8 {W : World} {r : Reach} {b : Nat} {v : Value} (h : Cell.okWide Tryz.prog W r b 5 v) : ∃ n, v = .int .u8 n ∧ 0 ≤ n ∧ n ≤ 255 := by
  unfold Cell.okWide at h
  rw [Tryz.underlying5] at h
  have h2 : Cell.ok Tryz.prog W r b 5 v := by cases v <;> exact h
  unfold Cell.ok at h2
  rw [Tryz.underlying5] at h2
  cases v <;> simp at h2
  obtain ⟨rfl, h3⟩ := h2
  exact ⟨_, rfl, h3.1, h3.2⟩
theorem rnd_cells {W : World} {b : Nat} {v : Value} (h : Value.okWide Tryz.prog W .any b 33 v) : ∃ b0 b1 b2 b3 b4 b5 b6 b7 b8 b9 b10 b11 b12 b13 b14 b15, v = .agg (rndA b0 b1 b2 b3 b4 b5 b6 b7 b8 b9 b10 b11 b12 b13 b14 b15) ∧ ∀ x ∈ [b0, b1, b2, b3, b4, b5, b6, b7, b8, b9, b10, b11, b12, b13, b14, b15], 0 ≤ x ∧ x ≤ 255 := by
  simp only [Value.okWide, Tryz.underlying33] at h
  obtain ⟨cs, rfl, hs, ts, ht, _, hc⟩ := h
  have e : Tryz.prog.cellTypes Tryz.prog.depth 33 = some [5, 5, 5, 5, 5, 5, 5, 5, 5, 5, 5, 5, 5, 5, 5, 5] := by kernel_rfl
  obtain rfl := Option.some.inj (e.symm.trans ht)
  have es : Tryz.prog.cellsOf 33 = 16 := by kernel_rfl
  rw [es] at hs
  obtain ⟨u0, x0, c0⟩ := hc 0 _ (Array.getElem?_eq_getElem (by omega))
  obtain rfl : 5 = u0 := Option.some.inj x0
  obtain ⟨n0, e0, r0, s0⟩ := cell_u8 c0
  obtain ⟨u1, x1, c1⟩ := hc 1 _ (Array.getElem?_eq_getElem (by omega))
  obtain rfl : 5 = u1 := Option.some.inj x1
  obtain ⟨n1, e1, r1, s1⟩ := cell_u8 c1
  obtain ⟨u2, x2, c2⟩ := hc 2 _ (Array.getElem?_eq_getElem (by omega))
  obtain rfl : 5 = u2 := Option.some.inj x2
  obtain ⟨n2, e2, r2, s2⟩ := cell_u8 c2
  obtain ⟨u3, x3, c3⟩ := hc 3 _ (Array.getElem?_eq_getElem (by omega))
  obtain rfl : 5 = u3 := Option.some.inj x3
  obtain ⟨n3, e3, r3, s3⟩ := cell_u8 c3
  obtain ⟨u4, x4, c4⟩ := hc 4 _ (Array.getElem?_eq_getElem (by omega))
  obtain rfl : 5 = u4 := Option.some.inj x4
  obtain ⟨n4, e4, r4, s4⟩ := cell_u8 c4
  obtain ⟨u5, x5, c5⟩ := hc 5 _ (Array.getElem?_eq_getElem (by omega))
  obtain rfl : 5 = u5 := Option.some.inj x5
  obtain ⟨n5, e5, r5, s5⟩ := cell_u8 c5
  obtain ⟨u6, x6, c6⟩ := hc 6 _ (Array.getElem?_eq_getElem (by omega))
  obtain rfl : 5 = u6 := Option.some.inj x6
  obtain ⟨n6, e6, r6, s6⟩ := cell_u8 c6
  obtain ⟨u7, x7, c7⟩ := hc 7 _ (Array.getElem?_eq_getElem (by omega))
  obtain rfl : 5 = u7 := Option.some.inj x7
  obtain ⟨n7, e7, r7, s7⟩ := cell_u8 c7
  obtain ⟨u8, x8, c8⟩ := hc 8 _ (Array.getElem?_eq_getElem (by omega))
  obtain rfl : 5 = u8 := Option.some.inj x8
  obtain ⟨n8, e8, r8, s8⟩ := cell_u8 c8
  obtain ⟨u9, x9, c9⟩ := hc 9 _ (Array.getElem?_eq_getElem (by omega))
  obtain rfl : 5 = u9 := Option.some.inj x9
  obtain ⟨n9, e9, r9, s9⟩ := cell_u8 c9
  obtain ⟨u10, x10, c10⟩ := hc 10 _ (Array.getElem?_eq_getElem (by omega))
  obtain rfl : 5 = u10 := Option.some.inj x10
  obtain ⟨n10, e10, r10, s10⟩ := cell_u8 c10
  obtain ⟨u11, x11, c11⟩ := hc 11 _ (Array.getElem?_eq_getElem (by omega))
  obtain rfl : 5 = u11 := Option.some.inj x11
  obtain ⟨n11, e11, r11, s11⟩ := cell_u8 c11
  obtain ⟨u12, x12, c12⟩ := hc 12 _ (Array.getElem?_eq_getElem (by omega))
  obtain rfl : 5 = u12 := Option.some.inj x12
  obtain ⟨n12, e12, r12, s12⟩ := cell_u8 c12
  obtain ⟨u13, x13, c13⟩ := hc 13 _ (Array.getElem?_eq_getElem (by omega))
  obtain rfl : 5 = u13 := Option.some.inj x13
  obtain ⟨n13, e13, r13, s13⟩ := cell_u8 c13
  obtain ⟨u14, x14, c14⟩ := hc 14 _ (Array.getElem?_eq_getElem (by omega))
  obtain rfl : 5 = u14 := Option.some.inj x14
  obtain ⟨n14, e14, r14, s14⟩ := cell_u8 c14
  obtain ⟨u15, x15, c15⟩ := hc 15 _ (Array.getElem?_eq_getElem (by omega))
  obtain rfl : 5 = u15 := Option.some.inj x15
  obtain ⟨n15, e15, r15, s15⟩ := cell_u8 c15
  refine ⟨n0, n1, n2, n3, n4, n5, n6, n7, n8, n9, n10, n11, n12, n13, n14, n15, ?_, ?_⟩
  · unfold rndA
    rw [← e0, ← e1, ← e2, ← e3, ← e4, ← e5, ← e6, ← e7, ← e8, ← e9, ← e10, ← e11, ← e12, ← e13, ← e14, ← e15]
    congr 1
    apply Array.ext
    · exact hs
    · intro i h1 h2
      have h2' : i < 16 := h2
      match i, h2' with
      | 0, _ => rfl
      | 1, _ => rfl
      | 2, _ => rfl
      | 3, _ => rfl
      | 4, _ => rfl
      | 5, _ => rfl
      | 6, _ => rfl
      | 7, _ => rfl
      | 8, _ => rfl
      | 9, _ => rfl
      | 10, _ => rfl
      | 11, _ => rfl
      | 12, _ => rfl
      | 13, _ => rfl
      | 14, _ => rfl
      | 15, _ => rfl
      | n + 16, h => exact absurd h (by omega)
  · intro x hx
    simp only [List.mem_cons, List.mem_nil_iff, or_false] at hx
    rcases hx with rfl | rfl | rfl | rfl | rfl | rfl | rfl | rfl | rfl | rfl | rfl | rfl | rfl | rfl | rfl | rfl
    · exact ⟨r0, s0⟩
    · exact ⟨r1, s1⟩
    · exact ⟨r2, s2⟩
    · exact ⟨r3, s3⟩
    · exact ⟨r4, s4⟩
    · exact ⟨r5, s5⟩
    · exact ⟨r6, s6⟩
    · exact ⟨r7, s7⟩
    · exact ⟨r8, s8⟩
    · exact ⟨r9, s9⟩
    · exact ⟨r10, s10⟩
    · exact ⟨r11, s11⟩
    · exact ⟨r12, s12⟩
    · exact ⟨r13, s13⟩
    · exact ⟨r14, s14⟩
    · exact ⟨r15, s15⟩
end Go.Proofs.YtibgiohijknmbaaGreatDoor
