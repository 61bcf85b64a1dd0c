/-
  Joined texts: SReg, SDel, Own.
-/
import Derived.Test.YtibgiohijknmbaaGreatDoorM20
import Derived.Test.YtibgiohijknmbaaGreatDoorM21
import Derived.Test.YtibgiohijknmbaaGreatDoorM19
import Derived.Test.YtibgiohijknmbaaGreatDoorM12
import Derived.Test.YtibgiohijknmbaaGreatDoorM11
/-
  (*Stack).Register of an opaque origin.
-/
namespace Go.Proofs.YtibgiohijknmbaaGreatDoor
open Go.RowKit Go.Conc
set_option linter.unusedVariables false
set_option linter.unusedSimpArgs false

theorem own_ty {w w' : World} {B n sz : Nat} {e : TypeId} {v : Value} {xs : List Value} {ts : List TypeId} (h : w.ownsRow B e sz v n xs) (k : TyKept ts w w') (hT : e ∉ ts) : w'.ownsRow B e sz v n xs := by
  refine ⟨h.1, ?_⟩
  rcases h.2 with h3 | ⟨g, cap, cur, hv, hg, hh, r⟩
  · exact Or.inl h3
  · exact Or.inr ⟨g, cap, cur, hv, hg, (k _ _ _ _ hh hT).trans hh, r⟩
theorem TabAt.ty {w w' : World} {B tb : Nat} {es : Ents} {room last : Int} {ts : List TypeId} (h : TabAt w B tb es room last) (k : TyKept ts w w') (h1 : 127 ∉ ts) (h2 : 124 ∉ ts) : TabAt w' B tb es room last := by
  obtain ⟨hb, hn, lv, hv, ho⟩ := h
  exact ⟨hb, hn, lv, (k _ _ _ _ hv h1).trans hv, own_ty ho k h2⟩
theorem StoreAt.ty {w w' : World} {B sb : Nat} {ss : List SEnt} {room : Int} {ts : List TypeId} (h : StoreAt w B sb ss room) (k : TyKept ts w w') (h1 : 135 ∉ ts) (h2 : 137 ∉ ts) : StoreAt w' B sb ss room := by
  obtain ⟨hb, hn, lv, hv, ho⟩ := h
  exact ⟨hb, hn, lv, (k _ _ _ _ hv h1).trans hv, own_ty ho k h2⟩
theorem TyKept.more {w w' : World} {ts us : List TypeId} (h : TyKept ts w w') (hs : ∀ t ∈ ts, t ∈ us) : TyKept us w w' := fun k c T fz hk hT => h k c T fz hk (fun hm => hT (hs _ hm))
theorem StoreNil.at_ {w : World} {B sb : Nat} {room : Int} (h : StoreNil w B sb room) : StoreAt w B sb [] room := ⟨h.1, by simp, _, h.2, World.ownsRow_nil _ _ _ _⟩

set_option maxRecDepth 100000 in
theorem sregister_none (B s tb sb mb : Nat) (most h room last : Int) (os oh : ByteArray) (op on : Int) (r : Array Value) (w : World) (hS : StackAt w B s tb sb mb most) (hT : TabAt w B tb [] room last) :
    Calls Tryz.prog 11 #[.pointer (some ⟨s, 0, none⟩), .agg (oriV os oh op on), .int .i64 h, .agg r] w fun e w' => e = .returned (.tuple #[.string ⟨#[]⟩, .int .i64 6]) ∧ Below w.heap.size w w' := by
  have hs1 : (w.alloc (.cells (oriV os oh op on) 23)).heap.size = w.heap.size + 1 := by simp
  have hb0 : Below w.heap.size w ((w.alloc (.cells (oriV os oh op on) 23)).alloc (.cells r 33)) := ((Below.refl _ _).alloc (Nat.le_refl _) _).alloc (by rw [hs1]; omega) _
  have hg := get_c B tb [] room last h _ (hT.later hb0)
  have hS0 := hS.later hb0
  have e : getF [] h = none := rfl
  rw [e] at hg
  unfold optPtr at hg
  simp only [Option.map_none, Option.isSome_none] at hg
  obtain ⟨W0, hW0⟩ : ∃ W, W = ((w.alloc (.cells (oriV os oh op on) 23)).alloc (.cells r 33)) := ⟨_, rfl⟩
  rw [← hW0] at hg hb0 hS0
  unfold oriV at hW0 ⊢
  have HW : Hid (((w.alloc (.cells #[.string os, .string oh, .int .i64 op, .int .i64 on] 23)).alloc (.cells r 33)) = W0) := Lib.hid hW0.symm
  have c0 : W0.cell? ⟨s, 0, none⟩ = some (.pointer (some ⟨tb, 0, none⟩)) := Lib.cell_of_heap hS0.2 0
  have hls := hS0.lt
  clear hW0 hT hs1 e hS hS0
  go_enter Tryz.func11, Tryz.ntmps11
  go_wp2_with (rw [HW.out])
  refine hg.mono ?_
  rintro e w1 ⟨rfl, hb1⟩
  go_wp2_with fail
  go_ret2
  exact ⟨rfl, hb0.trans (hb1.mono hb0.size)⟩

def plusOf (l : List UInt8) : ByteArray := ⟨#[43]⟩ ++ nameOf l
def SRegisterOk (B sb mb : Nat) (room : Nat) (us ps : List ByteArray) (oh : ByteArray) (op on : Int) (blk : Nat) (w : World) (e : Ending) (w' : World) : Prop :=
  ∃ l : List UInt8, l.length = 36 ∧ (∀ c ∈ l, goodB c = true) ∧ e = .returned (.tuple #[.string (nameOf l), .int .i64 0]) ∧ StoreAt w' B sb [⟨nameOf l, ⟨#[]⟩, oh, op, on, blk⟩] room ∧ MailAt w' B mb room us (ps ++ [plusOf l]) ∧ Below B w w' ∧ TyKept stoTs w w'
set_option maxRecDepth 100000 in
set_option maxHeartbeats 4000000 in
theorem sregister_c (B s tb sb mb : Nat) (most h last : Int) (troom : Int) (room : Nat) (us ps : List ByteArray) (oh : ByteArray) (op on : Int) (blk : Nat) (b0 b1 b2 b3 b4 b5 b6 b7 b8 b9 b10 b11 b12 b13 b14 b15 : Int) (w : World) (hy : ∀ x ∈ [b0, b1, b2, b3, b4, b5, b6, b7, b8, b9, b10, b11, b12, b13, b14, b15], 0 ≤ x ∧ x ≤ 255)
    (hS : StackAt w B s tb sb mb most) (hT : TabAt w B tb [(h, blk)] troom last) (hSt : StoreAt w B sb [] room) (hM : MailAt w B mb room us ps) (hr : 1 ≤ room) (hps : ps.length < room) :
    Calls Tryz.prog 11 #[.pointer (some ⟨s, 0, none⟩), .agg (oriV ⟨#[]⟩ oh op on), .int .i64 h, .agg (rndA b0 b1 b2 b3 b4 b5 b6 b7 b8 b9 b10 b11 b12 b13 b14 b15)] w (SRegisterOk B sb mb room us ps oh op on blk w) := by
  have hBw : B ≤ w.heap.size := Nat.le_trans hS.1 (Nat.le_of_lt hS.lt)
  have hs1 : (w.alloc (.cells (oriV ⟨#[]⟩ oh op on) 23)).heap.size = w.heap.size + 1 := by simp
  have ho0 : ((w.alloc (.cells (oriV ⟨#[]⟩ oh op on) 23)).alloc (.cells (rndA b0 b1 b2 b3 b4 b5 b6 b7 b8 b9 b10 b11 b12 b13 b14 b15) 33)).heap[w.heap.size]? = some (.cells (oriV ⟨#[]⟩ oh op on) 23 (0, 0)) := by
    rw [Below.heap_alloc _ _ _ (by rw [hs1]; omega)]
    exact heap_last _ _
  have ha0 : ((w.alloc (.cells (oriV ⟨#[]⟩ oh op on) 23)).alloc (.cells (rndA b0 b1 b2 b3 b4 b5 b6 b7 b8 b9 b10 b11 b12 b13 b14 b15) 33)).heap[w.heap.size + 1]? = some (.cells (rndA b0 b1 b2 b3 b4 b5 b6 b7 b8 b9 b10 b11 b12 b13 b14 b15) 33 (0, 0)) := by
    have := heap_last (w.alloc (.cells (oriV ⟨#[]⟩ oh op on) 23)) (.cells (rndA b0 b1 b2 b3 b4 b5 b6 b7 b8 b9 b10 b11 b12 b13 b14 b15) 33)
    rw [hs1] at this
    exact this
  have hb0 : Below w.heap.size w ((w.alloc (.cells (oriV ⟨#[]⟩ oh op on) 23)).alloc (.cells (rndA b0 b1 b2 b3 b4 b5 b6 b7 b8 b9 b10 b11 b12 b13 b14 b15) 33)) := ((Below.refl _ _).alloc (Nat.le_refl _) _).alloc (by rw [hs1]; omega) _
  have hS0 := hS.later hb0
  have hSt0 := hSt.later hb0
  have hM0 := hM.later hb0
  have hg := get_c B tb [(h, blk)] troom last h _ (hT.later hb0)
  rw [getF_one] at hg
  unfold optPtr at hg
  simp only [Option.map_some, Option.isSome_some] at hg
  have HY := Lib.hid hy
  obtain ⟨W0, hW0⟩ : ∃ W, W = ((w.alloc (.cells (oriV ⟨#[]⟩ oh op on) 23)).alloc (.cells (rndA b0 b1 b2 b3 b4 b5 b6 b7 b8 b9 b10 b11 b12 b13 b14 b15) 33)) := ⟨_, rfl⟩
  rw [← hW0] at ho0 ha0 hb0 hS0 hSt0 hM0 hg
  unfold oriV at hW0 ho0 ⊢
  unfold rndA at hW0 ha0 ⊢
  have HW : Hid (((w.alloc (.cells #[.string ⟨#[]⟩, .string oh, .int .i64 op, .int .i64 on] 23)).alloc (.cells #[.int .u8 b0, .int .u8 b1, .int .u8 b2, .int .u8 b3, .int .u8 b4, .int .u8 b5, .int .u8 b6, .int .u8 b7, .int .u8 b8, .int .u8 b9, .int .u8 b10, .int .u8 b11, .int .u8 b12, .int .u8 b13, .int .u8 b14, .int .u8 b15] 33)) = W0) := Lib.hid hW0.symm
  have HB0 := Lib.hid hb0
  have HS0 := Lib.hid hS0
  have HSt0 := Lib.hid hSt0
  have HM0 := Lib.hid hM0
  have c0 : W0.cell? ⟨s, 0, none⟩ = some (.pointer (some ⟨tb, 0, none⟩)) := Lib.cell_of_heap hS0.2 0
  have hls := hS0.lt
  have KP : Hid (∀ W, TyKept stoTs W0 W → W.cell? ⟨s, 1, none⟩ = some (.pointer (some ⟨sb, 0, none⟩)) ∧ W.cell? ⟨w.heap.size, 0, none⟩ = some (.string ⟨#[]⟩) ∧ W.cell? ⟨w.heap.size, 1, none⟩ = some (.string oh) ∧ W.cell? ⟨w.heap.size, 2, none⟩ = some (.int .i64 op) ∧ W.cell? ⟨w.heap.size, 3, none⟩ = some (.int .i64 on) ∧ W.rangeAt (w.heap.size + 1) 0 [.int .u8 b0, .int .u8 b1, .int .u8 b2, .int .u8 b3, .int .u8 b4, .int .u8 b5, .int .u8 b6, .int .u8 b7, .int .u8 b8, .int .u8 b9, .int .u8 b10, .int .u8 b11, .int .u8 b12, .int .u8 b13, .int .u8 b14, .int .u8 b15]) := Lib.hid fun W hk => by
    have h := (hk _ _ _ _ ho0 (by decide)).trans ho0
    have h' := (hk _ _ _ _ ha0 (by decide)).trans ha0
    have h2 := (hk _ _ _ _ hS0.2 (by decide)).trans hS0.2
    exact ⟨Lib.cell_of_heap h2 1, Lib.cell_of_heap h 0, Lib.cell_of_heap h 1, Lib.cell_of_heap h 2, Lib.cell_of_heap h 3, rnd_range _ _ _ h'⟩
  have hlA : w.heap.size + 1 < W0.heap.size := (Array.getElem?_eq_some_iff.1 ha0).1
  have hlO : w.heap.size < W0.heap.size := by omega
  clear hW0 ho0 ha0 hs1 hT hb0 hy hS hSt hM hS0 hSt0 hM0
  have hu16 : Tryz.prog.underlying 33 = some (.array 16 5) := Tryz.underlying33
  have hi16 : (Tryz.prog.info? 33).map (·.size) = some ([.int .u8 b0, .int .u8 b1, .int .u8 b2, .int .u8 b3, .int .u8 b4, .int .u8 b5, .int .u8 b6, .int .u8 b7, .int .u8 b8, .int .u8 b9, .int .u8 b10, .int .u8 b11, .int .u8 b12, .int .u8 b13, .int .u8 b14, .int .u8 b15] : List Value).length := by kernel_rfl
  go_enter Tryz.func11, Tryz.ntmps11
  go_wp2_with (rw [HW.out])
  refine hg.mono ?_
  rintro e w1 ⟨rfl, hb1⟩
  have HB1 := Lib.hid hb1
  obtain ⟨q0, q1, q2, q3, q4, q5⟩ := KP.out w1 (ty_below hb1 _)
  have l1 : w.heap.size + 1 < w1.heap.size := by have := hb1.size; omega
  have l2 : w.heap.size < w1.heap.size := by omega
  have l3 : s < w1.heap.size := by have := hb1.size; omega
  have hre := sreg_c B sb room oh op on blk b0 b1 b2 b3 b4 b5 b6 b7 b8 b9 b10 b11 b12 b13 b14 b15 w1.drew HY.out (by show B ≤ w1.heap.size; omega) ((HSt0.out.later hb1).later ((Below.refl _ _).drew)) (by omega)
  unfold oriV rndA at hre
  clear hb1 hg HW c0 hls hlA hlO
  go_wp2_with fail
  go_region_held3 (fun W => W.cell? ⟨s, 1, none⟩ = some (.pointer (some ⟨sb, 0, none⟩)) ∧ W.cell? ⟨w.heap.size, 0, none⟩ = some (.string ⟨#[]⟩) ∧ W.cell? ⟨w.heap.size, 1, none⟩ = some (.string oh) ∧ W.cell? ⟨w.heap.size, 2, none⟩ = some (.int .i64 op) ∧ W.cell? ⟨w.heap.size, 3, none⟩ = some (.int .i64 on) ∧ W.rangeAt (w.heap.size + 1) 0 [.int .u8 b0, .int .u8 b1, .int .u8 b2, .int .u8 b3, .int .u8 b4, .int .u8 b5, .int .u8 b6, .int .u8 b7, .int .u8 b8, .int .u8 b9, .int .u8 b10, .int .u8 b11, .int .u8 b12, .int .u8 b13, .int .u8 b14, .int .u8 b15]) (first | go_keep | (exact KP.out _ ((ty_below HB1.out _).trans hk3)))
    (first | (go_at_call 31; refine hre.mono ?_; rintro e w3 ⟨l, hlen, hgood, rfl, hst3, hb3, hk3, hch3⟩; replace hk3 : TyKept stoTs w1 w3 := hk3))
  have hB1 := HB1.out
  have hS3 := (HS0.out.later hB1).ty hk3 (by decide)
  have hM3 := ((HM0.out.later hB1).ty hk3 hch3 (by decide))
  have c2 : w3.cell? ⟨s, 2, none⟩ = some (.pointer (some ⟨mb, 0, none⟩)) := Lib.cell_of_heap hS3.2 2
  have hls := hS3.lt
  have hnz : (nameOf l).size = 46 := by
    have : (nameOf l).size = (blobNull ++ l).length := by show (blobNull ++ l).toArray.size = _; simp
    rw [this, List.length_append, hlen]; rfl
  have e1 : ∀ W, (Op.stringOp .add ⟨#[43]⟩ (nameOf l)).run Tryz.prog W = .ok (.string (⟨#[43]⟩ ++ nameOf l)) W := fun W => run_string_add_sum W ⟨#[43]⟩ (nameOf l) (by rw [hnz]; decide)
  have hmp := mput_plain B mb room us ps (⟨#[43]⟩ ++ nameOf l) w3 hM3 hps
  have HK : Hid (Below B w w3 ∧ TyKept stoTs w w3) := by
    refine ⟨?_, ?_⟩
    · exact ((HB0.out.trans (hB1.mono HB0.out.size)).mono hBw).trans (((Below.refl _ _).drew).trans hb3)
    · exact ((ty_below HB0.out _).trans (ty_below hB1 _)).trans hk3
  have HL := Lib.hid (And.intro hlen hgood)
  obtain ⟨nm, hnm⟩ : ∃ nm, nm = nameOf l := ⟨_, rfl⟩
  rw [← hnm] at hmp hst3 hnz e1 ⊢
  have HNM := Lib.hid hnm
  have HST := Lib.hid hst3
  clear hnm hst3 hM3 hS3 hk3 hch3 hb3 hre hlen hgood q0 q1 q2 q3 q4 q5 l1 l2 l3 hu16 hi16 hB1
  go_wp2_with fail
  refine hmp.mono ?_
  rintro e w5 ⟨rfl, hM5, hb5, hk5⟩
  have HF : Hid (StoreAt w5 B sb [⟨nm, ⟨#[]⟩, oh, op, on, blk⟩] room ∧ MailAt w5 B mb room us (ps ++ [⟨#[43]⟩ ++ nm]) ∧ Below B w w5 ∧ TyKept stoTs w w5) :=
    ⟨HST.out.ty hk5 (by decide) (by decide), hM5, HK.out.1.trans hb5, HK.out.2.trans (hk5.more (fun t ht => absurd ht (List.not_mem_nil)))⟩
  clear hM5 hb5 hk5 hmp
  go_wp2_with fail
  go_ret2
  obtain ⟨x1, x2, x3, x4⟩ := HF.out
  refine ⟨l, HL.out.1, HL.out.2, by rw [← HNM.out]; rfl, by rw [← HNM.out]; exact x1, ?_, x3, x4⟩
  unfold plusOf
  rw [← HNM.out]
  exact x2
end Go.Proofs.YtibgiohijknmbaaGreatDoor

/-
  slices.Delete of a store's only entry.
-/
namespace Go.Proofs.YtibgiohijknmbaaGreatDoor
open Go.RowKit
set_option linter.unusedVariables false
set_option linter.unusedSimpArgs false

theorem setCells_other (b : Nat) : ∀ (vs : List Value) (o : Nat) (w : World) (k : Nat), k ≠ b → (w.setCells b o vs).heap[k]? = w.heap[k]?
  | [], _, _, _, _ => rfl
  | v :: r, o, w, k, h => by
    show ((w.setCell ⟨b, o, none⟩ v).setCells b (o + 1) r).heap[k]? = _
    rw [setCells_other b r _ _ k h, heap_setCell_other _ _ _ _ h]
theorem setCells_same (b : Nat) : ∀ (vs : List Value) (o : Nat) (w : World) (cur : Array Value) (T : TypeId), w.heap[b]? = some (.cells cur T (0, 0)) → ∃ cur' : Array Value, (w.setCells b o vs).heap[b]? = some (.cells cur' T (0, 0)) ∧ cur'.size = cur.size
  | [], _, _, cur, _, h => ⟨cur, h, rfl⟩
  | v :: r, o, w, cur, T, h => by
    obtain ⟨c2, h2, e2⟩ := setCells_same b r (o + 1) (w.setCell ⟨b, o, none⟩ v) _ T (heap_setCell_same w b o _ _ v h)
    exact ⟨c2, h2, by rw [e2]; simp⟩
theorem below_setCells {B : Nat} {a : World} (b : Nat) (hb : B ≤ b) : ∀ (vs : List Value) (o : Nat) (w : World), Below B a w → Below B a (w.setCells b o vs)
  | [], _, _, h => h
  | v :: r, o, w, h => below_setCells b hb r (o + 1) _ (h.setCell hb v)
def zs6 : List Value := [.string ⟨#[]⟩, .string ⟨#[]⟩, .string ⟨#[]⟩, .int .i64 0, .int .i64 0, .pointer none]
theorem clear6 (g c : Nat) (ty : TypeId) (W : World) (hc : ∀ j, j < 6 → (W.cell? ⟨g, j, none⟩).isSome = true) (fz : ∀ j, W.frozen? ⟨g, j, none⟩ = false) :
    (Builtin.clear_ #[133] ty #[.slice (some ⟨g, 0, none⟩) 1 c]).run Tryz.prog W = .ok (.tuple #[]) (W.setCells g 0 zs6) := by
  have hst := run_storeCells_cells (P := Tryz.prog) g 0 zs6 0 W (fun j hj => by have := hc j hj; simpa using this) (fun j _ => by simpa using fz j) (by simp [zs6, Value.oneCell'])
  have hz := Tryz.zeroValue137
  simp only [Nat.add_zero] at hst
  simp [Builtin.clear_, run_underlying Tryz.underlying133, hz, Builtin.zeroCells]
  change (Result.andThen (Sem.run Tryz.prog (storeCells ⟨g, 0, none⟩ zs6) W) _) = _
  rw [hst]
  rfl
set_option maxRecDepth 100000 in
set_option maxHeartbeats 1000000 in
theorem sdel1_c (g cap : Nat) (w : World) (hm : cap ≤ maxLen) (h1 : 1 ≤ cap) (hc : ∀ j, j < 6 → (w.cell? ⟨g, j, none⟩).isSome = true) (fz : ∀ j, w.frozen? ⟨g, j, none⟩ = false) :
    Calls Tryz.prog 72 #[.slice (some ⟨g, 0, none⟩) 1 cap, .int .i64 0, .int .i64 1] w fun e w' => e = .returned (.slice (some ⟨g, 0, none⟩) 0 cap) ∧ ∃ nq, w' = (w.drewN nq).setCells g 0 zs6 := by
  have hcap : ¬ cap = 0 := by omega
  have hm2 : (cap : Int) ≤ 9223372036854775807 := by unfold maxLen at hm; omega
  have HCC := Lib.hid hc
  have HFZ := Lib.hid fz
  clear hc fz
  by_cases hc1 : cap = 1
  · subst hc1
    go_enter Tryz.func72, Tryz.ntmps72
    go_wp2_with fail
    go_region_law (fail)
    have hcl := fun ty c => clear6 g c ty w.drew HCC.out HFZ.out
    go_wp2_with fail
    go_ret
    exact ⟨rfl, 1, rfl⟩
  · have hlt : 1 < cap := by omega
    go_enter Tryz.func72, Tryz.ntmps72
    go_wp2_with fail
    go_region_law (fail)
    have hcl := fun ty c => clear6 g c ty w.drew HCC.out HFZ.out
    go_wp2_with fail
    go_ret
    exact ⟨rfl, 1, rfl⟩
end Go.Proofs.YtibgiohijknmbaaGreatDoor

/-
  store: own, of opaque origins.
-/
namespace Go.Proofs.YtibgiohijknmbaaGreatDoor
open Go.RowKit
set_option linter.unusedVariables false
set_option linter.unusedSimpArgs false

def ownI (ss : List SEnt) (s : ByteArray) (on : Int) : Int :=
  match getS ss s with
  | some e => if e.nonce = on then firstS (fun e => bEq e.url s) ss else -1
  | none => -1
theorem firstS_neg {p : SEnt → Bool} {es : List SEnt} (h : firstS p es < 0) : firstS p es = -1 := by
  unfold firstS at *
  split at h
  · omega
  · rename_i hn; rw [if_neg hn]

set_option maxRecDepth 100000 in
set_option maxHeartbeats 2000000 in
theorem own_c (B sb : Nat) (ss : List SEnt) (room : Int) (sch user pass host : ByteArray) (hasHost : Bool) (port : Int) (opq : Bool) (text : ByteArray) (pa : Option Addr) (pn pc : Nat) (hasQ hasF : Bool) (query frag : ByteArray) (s oh : ByteArray) (op on : Int) (w : World) (hT : StoreAt w B sb ss room) (hall : ∀ e ∈ ss, e.sch = ⟨#[]⟩)
    (hbare : ∀ W, Below w.heap.size w W → Calls Tryz.prog 37 #[.agg #[.string sch, .string user, .string pass, .string host, .bool hasHost, .int .i64 port, .bool opq, .string text, .slice pa pn pc, .bool hasQ, .bool hasF, .string query, .string frag]] W fun e w' => e = .returned (.string s) ∧ Below W.heap.size W w') :
    Calls Tryz.prog 70 #[.pointer (some ⟨sb, 0, none⟩), .agg #[.string sch, .string user, .string pass, .string host, .bool hasHost, .int .i64 port, .bool opq, .string text, .slice pa pn pc, .bool hasQ, .bool hasF, .string query, .string frag], .agg (oriV ⟨#[]⟩ oh op on)] w fun e w' => e = .returned (.int .i64 (ownI ss s on)) ∧ Below w.heap.size w w' := by
  have hs1 : (w.alloc (.cells #[.string sch, .string user, .string pass, .string host, .bool hasHost, .int .i64 port, .bool opq, .string text, .slice pa pn pc, .bool hasQ, .bool hasF, .string query, .string frag] 41)).heap.size = w.heap.size + 1 := by simp
  have hb0 : Below w.heap.size w ((w.alloc (.cells #[.string sch, .string user, .string pass, .string host, .bool hasHost, .int .i64 port, .bool opq, .string text, .slice pa pn pc, .bool hasQ, .bool hasF, .string query, .string frag] 41)).alloc (.cells (oriV ⟨#[]⟩ oh op on) 23)) := ((Below.refl _ _).alloc (Nat.le_refl _) _).alloc (by rw [hs1]; omega) _
  have hr : ((w.alloc (.cells #[.string sch, .string user, .string pass, .string host, .bool hasHost, .int .i64 port, .bool opq, .string text, .slice pa pn pc, .bool hasQ, .bool hasF, .string query, .string frag] 41)).alloc (.cells (oriV ⟨#[]⟩ oh op on) 23)).heap[w.heap.size]? = some (.cells #[.string sch, .string user, .string pass, .string host, .bool hasHost, .int .i64 port, .bool opq, .string text, .slice pa pn pc, .bool hasQ, .bool hasF, .string query, .string frag] 41 (0, 0)) := by
    rw [Below.heap_alloc _ _ _ (by rw [hs1]; omega)]
    exact heap_last _ _
  have hr' : ((w.alloc (.cells #[.string sch, .string user, .string pass, .string host, .bool hasHost, .int .i64 port, .bool opq, .string text, .slice pa pn pc, .bool hasQ, .bool hasF, .string query, .string frag] 41)).alloc (.cells (oriV ⟨#[]⟩ oh op on) 23)).heap[w.heap.size + 1]? = some (.cells (oriV ⟨#[]⟩ oh op on) 23 (0, 0)) := by
    have := heap_last (w.alloc (.cells #[.string sch, .string user, .string pass, .string host, .bool hasHost, .int .i64 port, .bool opq, .string text, .slice pa pn pc, .bool hasQ, .bool hasF, .string query, .string frag] 41)) (.cells (oriV ⟨#[]⟩ oh op on) 23)
    rw [hs1] at this
    exact this
  obtain ⟨W0, hW0⟩ : ∃ W, W = ((w.alloc (.cells #[.string sch, .string user, .string pass, .string host, .bool hasHost, .int .i64 port, .bool opq, .string text, .slice pa pn pc, .bool hasQ, .bool hasF, .string query, .string frag] 41)).alloc (.cells (oriV ⟨#[]⟩ oh op on) 23)) := ⟨_, rfl⟩
  rw [← hW0] at hr hb0 hr'
  have HW : Hid (((w.alloc (.cells #[.string sch, .string user, .string pass, .string host, .bool hasHost, .int .i64 port, .bool opq, .string text, .slice pa pn pc, .bool hasQ, .bool hasF, .string query, .string frag] 41)).alloc (.cells #[.string ⟨#[]⟩, .string oh, .int .i64 op, .int .i64 on] 23)) = W0) := Lib.hid hW0.symm
  clear hW0 hs1
  have hbr := hbare W0 hb0
  have hlt := hT.lt
  have hT0 := Lib.hid (hT.later (hb0.mono (Nat.le_refl _)))
  have c0 : W0.cell? ⟨w.heap.size, 0, none⟩ = some (.string sch) := Lib.cell_of_heap hr 0
  have c1 : W0.cell? ⟨w.heap.size, 1, none⟩ = some (.string user) := Lib.cell_of_heap hr 1
  have c2 : W0.cell? ⟨w.heap.size, 2, none⟩ = some (.string pass) := Lib.cell_of_heap hr 2
  have c3 : W0.cell? ⟨w.heap.size, 3, none⟩ = some (.string host) := Lib.cell_of_heap hr 3
  have c4 : W0.cell? ⟨w.heap.size, 4, none⟩ = some (.bool hasHost) := Lib.cell_of_heap hr 4
  have c5 : W0.cell? ⟨w.heap.size, 5, none⟩ = some (.int .i64 port) := Lib.cell_of_heap hr 5
  have c6 : W0.cell? ⟨w.heap.size, 6, none⟩ = some (.bool opq) := Lib.cell_of_heap hr 6
  have c7 : W0.cell? ⟨w.heap.size, 7, none⟩ = some (.string text) := Lib.cell_of_heap hr 7
  have c8 : W0.cell? ⟨w.heap.size, 8, none⟩ = some (.slice pa pn pc) := Lib.cell_of_heap hr 8
  have c9 : W0.cell? ⟨w.heap.size, 9, none⟩ = some (.bool hasQ) := Lib.cell_of_heap hr 9
  have c10 : W0.cell? ⟨w.heap.size, 10, none⟩ = some (.bool hasF) := Lib.cell_of_heap hr 10
  have c11 : W0.cell? ⟨w.heap.size, 11, none⟩ = some (.string query) := Lib.cell_of_heap hr 11
  have c12 : W0.cell? ⟨w.heap.size, 12, none⟩ = some (.string frag) := Lib.cell_of_heap hr 12
  have HR' := Lib.hid hr'
  have HALL := Lib.hid hall
  clear hr hr' hT hbare hall
  unfold oriV
  go_enter Tryz.func70, Tryz.ntmps70
  go_wp2_with (rw [HW.out])
  refine hbr.mono ?_
  rintro e w1 ⟨rfl, hb1⟩
  have HR1 := Lib.hid (bx HR'.out hb1)
  have hB1 := hb0.trans (hb1.mono hb0.size)
  have hT1 := Lib.hid (hT0.out.later hb1)
  clear hT0 HR' hbr hb1 HW c0 c1 c2 c3 c4 c5 c6 c7 c8 c9 c10 c11 c12
  go_wp2_with fail
  refine (sfind_c B sb ss room s w1 hT1.out).mono ?_
  rintro e w2 ⟨rfl, hb2⟩
  have HR2 := Lib.hid (bx HR1.out hb2)
  have hB2 := hB1.trans (hb2.mono hB1.size)
  have hT2 := hT1.out.later hb2
  clear hT1 HR1 hb2
  by_cases hneg : firstS (fun e => bEq e.url s) ss < 0
  · have hres : ownI ss s on = -1 := by unfold ownI; rw [getS_none hneg]
    have HRES := Lib.hid hres
    rw [firstS_neg hneg]
    clear hres hneg
    go_wp2_with fail
    go_quiet (fail)
    go_wp2
    go_ret
    exact ⟨ret_i HRES.out.symm, hB2.trans ((below_drewN w2 _).mono hB2.size)⟩
  · obtain ⟨k, hk, hkl, hg⟩ := getS_some (by omega : 0 ≤ firstS (fun e => bEq e.url s) ss)
    have hres : ownI ss s on = if (ss.getD k default).nonce = on then (k : Int) else -1 := by unfold ownI; rw [hg, hk]
    have HRES := Lib.hid hres
    rw [hk]
    clear hres hneg hk hg
    obtain ⟨_, hn, lv, hv, ho⟩ := hT2
    have hsc := HALL.out (ss.getD k default) (by rw [List.getD_eq_getElem?_getD, List.getElem?_eq_getElem hkl]; exact List.getElem_mem _)
    have q0 : w2.cell? ⟨sb, 0, none⟩ = some lv := Lib.cell_of_heap hv 0
    rcases ho.2 with ⟨_, h0⟩ | ⟨g, cap, cur, rfl, hg2, hhp, hnc, hm, hs, ht⟩
    · omega
    · have hcell : ∀ i, i < 6 → w2.cell? ⟨g, k * 6 + i, none⟩ = (ss.getD k default).vals[i]? := fun i hi => by
        have e1 := sentV_get ss default k hkl i hi
        obtain ⟨v, hv⟩ : ∃ v, (ss.getD k default).vals[i]? = some v := ⟨_, List.getElem?_eq_getElem (show i < 6 from hi)⟩
        rw [hv] at e1 ⊢
        have c1 := ho.cells (g := g) rfl _ _ e1
        rw [addr_add0] at c1
        exact c1
      obtain ⟨x, hx⟩ : ∃ x, x = ss.getD k default := ⟨_, rfl⟩
      rw [← hx] at hcell hsc HRES
      obtain ⟨xu, xs, xh, xp, xn, xb⟩ := x
      simp only at hsc HRES
      subst hsc
      have d1 : w2.cell? ⟨g, k * 6 + 1, none⟩ = some (.string ⟨#[]⟩) := hcell 1 (by decide)
      have d2 : w2.cell? ⟨g, k * 6 + 1 + 1, none⟩ = some (.string xh) := hcell 2 (by decide)
      have d3 : w2.cell? ⟨g, k * 6 + 1 + 2, none⟩ = some (.int .i64 xp) := hcell 3 (by decide)
      have d4 : w2.cell? ⟨g, k * 6 + 1 + 3, none⟩ = some (.int .i64 xn) := hcell 4 (by decide)
      have b0 : w2.cell? ⟨w.heap.size + 1, 0, none⟩ = some (.string ⟨#[]⟩) := Lib.cell_of_heap HR2.out 0
      have b1 : w2.cell? ⟨w.heap.size + 1, 1, none⟩ = some (.string oh) := Lib.cell_of_heap HR2.out 1
      have b2 : w2.cell? ⟨w.heap.size + 1, 2, none⟩ = some (.int .i64 op) := Lib.cell_of_heap HR2.out 2
      have b3 : w2.cell? ⟨w.heap.size + 1, 3, none⟩ = some (.int .i64 on) := Lib.cell_of_heap HR2.out 3
      have hsame := fun W => same_no xh oh xp xn op on W
      have hkl' : (k : Int) < (ss.length : Int) := by omega
      have hl0 : sb < w2.heap.size := (Array.getElem?_eq_some_iff.1 hv).1
      have hl1 : g < w2.heap.size := (Array.getElem?_eq_some_iff.1 hhp).1
      have hl2 : w.heap.size + 1 < w2.heap.size := (Array.getElem?_eq_some_iff.1 HR2.out).1
      clear hcell hx ho hv hs ht hhp
      unfold oriV at hsame
      by_cases hxn : xn = on
      · have hxb : (xn == on) = true := by simpa using hxn
        rw [hxb] at hsame
        rw [if_pos hxn] at HRES
        clear hxn hxb
        go_wp2_with fail
        go_region_held3 (fun W => W.cell? ⟨sb, 0, none⟩ = some (.slice (some ⟨g, 0, none⟩) ss.length cap) ∧ W.cell? ⟨g, k * 6 + 1, none⟩ = some (.string ⟨#[]⟩) ∧ W.cell? ⟨g, k * 6 + 1 + 1, none⟩ = some (.string xh) ∧ W.cell? ⟨g, k * 6 + 1 + 2, none⟩ = some (.int .i64 xp) ∧ W.cell? ⟨g, k * 6 + 1 + 3, none⟩ = some (.int .i64 xn) ∧ W.cell? ⟨w.heap.size + 1, 0, none⟩ = some (.string ⟨#[]⟩) ∧ W.cell? ⟨w.heap.size + 1, 1, none⟩ = some (.string oh) ∧ W.cell? ⟨w.heap.size + 1, 2, none⟩ = some (.int .i64 op) ∧ W.cell? ⟨w.heap.size + 1, 3, none⟩ = some (.int .i64 on)) (first | go_keep | exact ⟨q0, d1, d2, d3, d4, b0, b1, b2, b3⟩ | exact ⟨(hb3.cell (p := ⟨sb, 0, none⟩) hl0).trans q0, (hb3.cell (p := ⟨g, k * 6 + 1, none⟩) hl1).trans d1, (hb3.cell (p := ⟨g, k * 6 + 1 + 1, none⟩) hl1).trans d2, (hb3.cell (p := ⟨g, k * 6 + 1 + 2, none⟩) hl1).trans d3, (hb3.cell (p := ⟨g, k * 6 + 1 + 3, none⟩) hl1).trans d4, (hb3.cell (p := ⟨w.heap.size + 1, 0, none⟩) hl2).trans b0, (hb3.cell (p := ⟨w.heap.size + 1, 1, none⟩) hl2).trans b1, (hb3.cell (p := ⟨w.heap.size + 1, 2, none⟩) hl2).trans b2, (hb3.cell (p := ⟨w.heap.size + 1, 3, none⟩) hl2).trans b3⟩) (first | (go_at_call 120; refine (hsame _).mono ?_; rintro e w3 ⟨rfl, hb3⟩; replace hb3 := un_drew hb3))
        all_goals
          go_wp2_with fail
          go_ret
          exact ⟨ret_i HRES.out.symm, hB2.trans (hb3.mono hB2.size)⟩
      · have hxb : (xn == on) = false := by simpa using hxn
        rw [hxb] at hsame
        rw [if_neg hxn] at HRES
        clear hxn hxb
        go_wp2_with fail
        go_region_held3 (fun W => W.cell? ⟨sb, 0, none⟩ = some (.slice (some ⟨g, 0, none⟩) ss.length cap) ∧ W.cell? ⟨g, k * 6 + 1, none⟩ = some (.string ⟨#[]⟩) ∧ W.cell? ⟨g, k * 6 + 1 + 1, none⟩ = some (.string xh) ∧ W.cell? ⟨g, k * 6 + 1 + 2, none⟩ = some (.int .i64 xp) ∧ W.cell? ⟨g, k * 6 + 1 + 3, none⟩ = some (.int .i64 xn) ∧ W.cell? ⟨w.heap.size + 1, 0, none⟩ = some (.string ⟨#[]⟩) ∧ W.cell? ⟨w.heap.size + 1, 1, none⟩ = some (.string oh) ∧ W.cell? ⟨w.heap.size + 1, 2, none⟩ = some (.int .i64 op) ∧ W.cell? ⟨w.heap.size + 1, 3, none⟩ = some (.int .i64 on)) (first | go_keep | exact ⟨q0, d1, d2, d3, d4, b0, b1, b2, b3⟩ | exact ⟨(hb3.cell (p := ⟨sb, 0, none⟩) hl0).trans q0, (hb3.cell (p := ⟨g, k * 6 + 1, none⟩) hl1).trans d1, (hb3.cell (p := ⟨g, k * 6 + 1 + 1, none⟩) hl1).trans d2, (hb3.cell (p := ⟨g, k * 6 + 1 + 2, none⟩) hl1).trans d3, (hb3.cell (p := ⟨g, k * 6 + 1 + 3, none⟩) hl1).trans d4, (hb3.cell (p := ⟨w.heap.size + 1, 0, none⟩) hl2).trans b0, (hb3.cell (p := ⟨w.heap.size + 1, 1, none⟩) hl2).trans b1, (hb3.cell (p := ⟨w.heap.size + 1, 2, none⟩) hl2).trans b2, (hb3.cell (p := ⟨w.heap.size + 1, 3, none⟩) hl2).trans b3⟩) (first | (go_at_call 120; refine (hsame _).mono ?_; rintro e w3 ⟨rfl, hb3⟩; replace hb3 := un_drew hb3))
        all_goals
          go_wp2_with fail
          go_ret
          exact ⟨ret_i HRES.out.symm, hB2.trans (hb3.mono hB2.size)⟩
end Go.Proofs.YtibgiohijknmbaaGreatDoor
