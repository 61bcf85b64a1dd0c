/-
  Joined texts: Goes, GoeL.
-/
import Derived.Test.YtibgiohijknmbaaGreatDoorM25
import Derived.Test.YtibgiohijknmbaaGreatDoorM15
/-
  carryalllaw27.StackGoes: its walk.
-/
namespace Go.Proofs.YtibgiohijknmbaaGreatDoor
open Go.RowKit Go.Conc
set_option linter.unusedVariables false
set_option linter.unusedSimpArgs false

/-- What stands in memory in the middle of the law. -/
structure GI (rn : List Value) (on : Int) (n1 s tb sb mb : Nat) (m : Int) (w W : World) : Prop where
  rnd : W.heap[w.heap.size]? = some (.cells rn.toArray 33 (0, 0))
  ori : W.heap[n1]? = some (.cells (oriV ⟨#[]⟩ ⟨#[]⟩ 0 on) 23 (0, 0))
  stk : StackAt W w.heap.size s tb sb mb 100
  bel : Below w.heap.size w W
theorem GI.ty {rn : List Value} {on : Int} {n1 s tb sb mb : Nat} {m : Int} {w W W' : World} (h : GI rn on n1 s tb sb mb m w W) {ts : List TypeId} (k : TyKept ts W W') (b : Below w.heap.size W W') (h1 : 33 ∉ ts) (h2 : 23 ∉ ts) (h3 : 83 ∉ ts) : GI rn on n1 s tb sb mb m w W' :=
  ⟨(k _ _ _ _ h.rnd h1).trans h.rnd, (k _ _ _ _ h.ori h2).trans h.ori, h.stk.ty k h3, h.bel.trans b⟩
theorem GI.later {rn : List Value} {on : Int} {n1 s tb sb mb : Nat} {m : Int} {w W W' : World} (h : GI rn on n1 s tb sb mb m w W) (k : Below W.heap.size W W') : GI rn on n1 s tb sb mb m w W' :=
  h.ty (ts := []) (ty_below k _) (k.mono h.bel.size) (by simp) (by simp) (by simp)
theorem GI.load {rn : List Value} {on : Int} {n1 s tb sb mb : Nat} {m : Int} {w W : World} (h : GI rn on n1 s tb sb mb m w W) (hn : (Tryz.prog.info? 33).map (·.size) = some rn.length) :
    (Instr.loadAt 33 (.pointer (some ⟨w.heap.size, 0, none⟩))).run Tryz.prog W = .ok (.agg rn.toArray) W :=
  run_loadAt_mid W w.heap.size 0 _ rn _ (rnd_range _ _ _ h.rnd) Tryz.underlying33 rfl hn

theorem sum_none (bs : Nat → List UInt8) : sumTo [] bs [] = 0 := rfl
theorem sub_ty {ts us : List TypeId} {w w' : World} (h : TyKept ts w w') (hs : ∀ t ∈ ts, t ∈ us) : TyKept us w w' := h.more hs
set_option maxRecDepth 100000 in
set_option maxHeartbeats 8000000 in
theorem goes_c (bl : List UInt8) (ba : Option Addr) (bcap : Nat) (kind : ByteArray) (b0 b1 b2 b3 b4 b5 b6 b7 b8 b9 b10 b11 b12 b13 b14 b15 nonce m : Int) (w : World) (hy : ∀ x ∈ [b0, b1, b2, b3, b4, b5, b6, b7, b8, b9, b10, b11, b12, b13, b14, b15], 0 ≤ x ∧ x ≤ 255) (hsrc : SrcAt w ba bcap bl) (hb1 : bl.length ≤ 100) (hk1 : kind.size ≤ 100)
    (hT : Lib.Utf8Tabs 1 2 w) (hm : w.cell? ⟨0, 0, none⟩ = some (.int .i64 m)) (h0 : 0 < w.heap.size) :
    Calls Tryz.prog 4 #[.slice ba bl.length bcap, .string kind, .agg (rndA b0 b1 b2 b3 b4 b5 b6 b7 b8 b9 b10 b11 b12 b13 b14 b15), .int .i64 nonce] w fun e w' => e = .returned (.bool true) ∧ Below w.heap.size w w' := by
  have hbz : Below w.heap.size w (w.alloc (.cells (rndA b0 b1 b2 b3 b4 b5 b6 b7 b8 b9 b10 b11 b12 b13 b14 b15) 33)) := (Below.refl _ _).alloc (Nat.le_refl _) _
  have hrz : (w.alloc (.cells (rndA b0 b1 b2 b3 b4 b5 b6 b7 b8 b9 b10 b11 b12 b13 b14 b15) 33)).heap[w.heap.size]? = some (.cells (rndA b0 b1 b2 b3 b4 b5 b6 b7 b8 b9 b10 b11 b12 b13 b14 b15) 33 (0, 0)) := heap_last _ _
  obtain ⟨W0, hW0⟩ : ∃ W, W = w.alloc (.cells (rndA b0 b1 b2 b3 b4 b5 b6 b7 b8 b9 b10 b11 b12 b13 b14 b15) 33) := ⟨_, rfl⟩
  rw [← hW0] at hbz hrz
  unfold rndA at hW0 hrz
  have HW : Hid (w.alloc (.cells #[.int .u8 b0, .int .u8 b1, .int .u8 b2, .int .u8 b3, .int .u8 b4, .int .u8 b5, .int .u8 b6, .int .u8 b7, .int .u8 b8, .int .u8 b9, .int .u8 b10, .int .u8 b11, .int .u8 b12, .int .u8 b13, .int .u8 b14, .int .u8 b15] 33) = W0) := Lib.hid hW0.symm
  have hnew := fun W => stnew_c 1 2 100 W (by decide) (by decide) (by decide) (by decide) (by decide) (by decide)
  unfold capsV at hnew
  have HM : Hid (∀ W, Below w.heap.size w W → Lib.Utf8Tabs 1 2 W ∧ W.cell? ⟨0, 0, none⟩ = some (.int .i64 m) ∧ 0 < W.heap.size) := Lib.hid fun W hb => ⟨utf8tabs_below hT hb, (hb.cell (p := ⟨0, 0, none⟩) h0).trans hm, Nat.lt_of_lt_of_le h0 hb.size⟩
  have HSRC := Lib.hid hsrc
  have HBZ := Lib.hid hbz
  have HRZ := Lib.hid hrz
  have HY := Lib.hid hy
  have L1 : ¬ 100 < (bl.length : Int) := by omega
  have L2 : ¬ 100 < (kind.size : Int) := by omega
  have L3 : (bl.length : Int) ≤ 100 := by omega
  have L4 : (kind.size : Int) ≤ 100 := by omega
  clear hW0 hsrc hbz hrz hT hm h0 hy
  unfold rndA
  go_enter Tryz.func4, Tryz.ntmps4
  go_wp2_with (rw [HW.out])
  obtain ⟨_, m1, m2⟩ := HM.out W0 HBZ.out
  refine (awake_c m W0 m1 m2).mono ?_
  rintro e w1 ⟨rfl, hbw1⟩
  clear m1 m2
  go_wp2_with fail
  refine (hnew w1).mono ?_
  rintro e w2 ⟨s, tb, sb, mb, rfl, hS, hTb, hN, hMl, hbw2⟩
  have hB1 := HBZ.out.trans (hbw1.mono HBZ.out.size)
  have hB2 := hB1.trans (hbw2.mono hB1.size)
  have hr2 := (hbw2.block w.heap.size (by have := hbw1.size; have := (Array.getElem?_eq_some_iff.1 HRZ.out).1; omega)).trans ((hbw1.block w.heap.size (Array.getElem?_eq_some_iff.1 HRZ.out).1).trans HRZ.out)
  have hle1 : w.heap.size ≤ w1.heap.size := hB1.size
  have hS2 : StackAt w2 w.heap.size s tb sb mb 100 := ⟨Nat.le_trans hle1 hS.1, hS.2⟩
  have hT2 := hTb.base hle1
  have hN2 := (hN.base hle1).at_
  have hM2 := hMl.base hle1
  clear hS hTb hN hMl hnew hbw1 hbw2 hB1 HW
  -- the origin's variable
  have hal : Below w2.heap.size w2 (w2.alloc (.cells #[.string ⟨#[]⟩, .string ⟨#[]⟩, .int .i64 0, .int .i64 nonce] 23)) := (Below.refl _ _).alloc (Nat.le_refl _) _
  have ho3 : (w2.alloc (.cells #[.string ⟨#[]⟩, .string ⟨#[]⟩, .int .i64 0, .int .i64 nonce] 23)).heap[w2.heap.size]? = some (.cells (oriV ⟨#[]⟩ ⟨#[]⟩ 0 nonce) 23 (0, 0)) := heap_last _ _
  have I3 : GI [.int .u8 b0, .int .u8 b1, .int .u8 b2, .int .u8 b3, .int .u8 b4, .int .u8 b5, .int .u8 b6, .int .u8 b7, .int .u8 b8, .int .u8 b9, .int .u8 b10, .int .u8 b11, .int .u8 b12, .int .u8 b13, .int .u8 b14, .int .u8 b15] nonce w2.heap.size s tb sb mb m w (w2.alloc (.cells #[.string ⟨#[]⟩, .string ⟨#[]⟩, .int .i64 0, .int .i64 nonce] 23)) :=
    ⟨(hal.block _ (Array.getElem?_eq_some_iff.1 hr2).1).trans hr2, ho3, hS2.later hal, hB2.trans (hal.mono hB2.size)⟩
  have HT3 := Lib.hid (hT2.later hal)
  have HN3 := Lib.hid (hN2.later hal)
  have HM3 := Lib.hid (hM2.later hal)
  generalize hW3 : w2.alloc (.cells #[.string ⟨#[]⟩, .string ⟨#[]⟩, .int .i64 0, .int .i64 nonce] 23) = W3 at *
  have HW3 := Lib.hid hW3
  have n1lt : w2.heap.size < W3.heap.size := by rw [← hW3]; simp
  clear hW3 hal ho3 hS2 hT2 hN2 hM2 hr2 hB2
  have HI3 := Lib.hid I3
  clear I3
  go_wp2_with (rw [HW3.out])
  -- Create
  have hc := create_c w.heap.size s tb sb mb 100 [] 1 0 (fun _ => bl) (fun _ => ⟨(kindF kind.data.toList).toArray⟩) bl ba bcap kind W3 HI3.out.stk HT3.out (fun e he => absurd he (List.not_mem_nil)) (HSRC.out.later HI3.out.bel) (by omega) (by omega) (by decide) (Or.inl (by decide)) (by decide) (by decide)
  refine hc.mono ?_
  rintro e w4 ⟨blk, hblk, hBl, h4⟩
  rw [sum_none, if_neg (by omega), if_neg (by decide)] at h4
  obtain ⟨rfl, hT4, hb4, hk4, hch4⟩ := h4
  have HI4 := Lib.hid (HI3.out.ty hk4 hb4 (by decide) (by decide) (by decide))
  have HT4 := Lib.hid hT4
  have HN4 := Lib.hid (HN3.out.ty hk4 (by decide) (by decide))
  have HM4 := Lib.hid (HM3.out.ty hk4 hch4 (by decide))
  have HBL4 := Lib.hid (hBl.base HI3.out.bel.size)
  have n1lt4 : w2.heap.size < w4.heap.size := (Array.getElem?_eq_some_iff.1 HI4.out.ori).1
  have nzlt4 : w.heap.size < w4.heap.size := (Array.getElem?_eq_some_iff.1 HI4.out.rnd).1
  clear hc hblk hBl hT4 hb4 hk4 hch4 HW3 n1lt
  have o0 : w4.cell? ⟨w2.heap.size, 0, none⟩ = some (.string ⟨#[]⟩) := Lib.cell_of_heap HI4.out.ori 0
  have o1 : w4.cell? ⟨w2.heap.size, 1, none⟩ = some (.string ⟨#[]⟩) := Lib.cell_of_heap HI4.out.ori 1
  have o2 : w4.cell? ⟨w2.heap.size, 2, none⟩ = some (.int .i64 0) := Lib.cell_of_heap HI4.out.ori 2
  have o3 : w4.cell? ⟨w2.heap.size, 3, none⟩ = some (.int .i64 nonce) := Lib.cell_of_heap HI4.out.ori 3
  have x0 : w4.cell? ⟨w.heap.size, 0, none⟩ = some (.int .u8 b0) := Lib.cell_of_heap HI4.out.rnd 0
  have x1 : w4.cell? ⟨w.heap.size, 1, none⟩ = some (.int .u8 b1) := Lib.cell_of_heap HI4.out.rnd 1
  have x2 : w4.cell? ⟨w.heap.size, 2, none⟩ = some (.int .u8 b2) := Lib.cell_of_heap HI4.out.rnd 2
  have x3 : w4.cell? ⟨w.heap.size, 3, none⟩ = some (.int .u8 b3) := Lib.cell_of_heap HI4.out.rnd 3
  have x4 : w4.cell? ⟨w.heap.size, 4, none⟩ = some (.int .u8 b4) := Lib.cell_of_heap HI4.out.rnd 4
  have x5 : w4.cell? ⟨w.heap.size, 5, none⟩ = some (.int .u8 b5) := Lib.cell_of_heap HI4.out.rnd 5
  have x6 : w4.cell? ⟨w.heap.size, 6, none⟩ = some (.int .u8 b6) := Lib.cell_of_heap HI4.out.rnd 6
  have x7 : w4.cell? ⟨w.heap.size, 7, none⟩ = some (.int .u8 b7) := Lib.cell_of_heap HI4.out.rnd 7
  have x8 : w4.cell? ⟨w.heap.size, 8, none⟩ = some (.int .u8 b8) := Lib.cell_of_heap HI4.out.rnd 8
  have x9 : w4.cell? ⟨w.heap.size, 9, none⟩ = some (.int .u8 b9) := Lib.cell_of_heap HI4.out.rnd 9
  have x10 : w4.cell? ⟨w.heap.size, 10, none⟩ = some (.int .u8 b10) := Lib.cell_of_heap HI4.out.rnd 10
  have x11 : w4.cell? ⟨w.heap.size, 11, none⟩ = some (.int .u8 b11) := Lib.cell_of_heap HI4.out.rnd 11
  have x12 : w4.cell? ⟨w.heap.size, 12, none⟩ = some (.int .u8 b12) := Lib.cell_of_heap HI4.out.rnd 12
  have x13 : w4.cell? ⟨w.heap.size, 13, none⟩ = some (.int .u8 b13) := Lib.cell_of_heap HI4.out.rnd 13
  have x14 : w4.cell? ⟨w.heap.size, 14, none⟩ = some (.int .u8 b14) := Lib.cell_of_heap HI4.out.rnd 14
  have x15 : w4.cell? ⟨w.heap.size, 15, none⟩ = some (.int .u8 b15) := Lib.cell_of_heap HI4.out.rnd 15
  go_wp2_with fail
  -- Register
  have hrg := sregister_c w.heap.size s tb sb mb 100 1 1 1 2 [] [] ⟨#[]⟩ 0 nonce blk b0 b1 b2 b3 b4 b5 b6 b7 b8 b9 b10 b11 b12 b13 b14 b15 w4 HY.out HI4.out.stk HT4.out HN4.out HM4.out (by decide) (by decide)
  unfold rndA oriV at hrg
  refine hrg.mono ?_
  rintro e w5 ⟨l, hlen, hgood, rfl, hst5, hm5, hb5, hk5⟩
  have HI5 := Lib.hid (HI4.out.ty hk5 hb5 (by decide) (by decide) (by decide))
  have HT5 := Lib.hid (HT4.out.ty hk5 (by decide) (by decide))
  have HST5 := Lib.hid hst5
  have HM5 := Lib.hid hm5
  have HBL5 := Lib.hid (HBL4.out.ty hk5 (by decide) (by decide))
  have HLG := Lib.hid (And.intro hlen hgood)
  clear hrg hst5 hm5 hb5 hk5 hlen hgood o0 o1 o2 o3 x0 x1 x2 x3 x4 x5 x6 x7 x8 x9 x10 x11 x12 x13 x14 x15 n1lt4 nzlt4
  go_wp2_with fail
  -- Forget, twice; Bytes
  have hf1 := forget_c w.heap.size s tb sb mb blk 100 1 1 1 w5 HI5.out.stk HT5.out
  refine hf1.mono ?_
  rintro e w6 ⟨rfl, hT6, hb6, hk6, hch6⟩
  have HI6 := Lib.hid (HI5.out.ty hk6 hb6 (by decide) (by decide) (by decide))
  have HT6 := Lib.hid hT6
  have HST6 := Lib.hid (HST5.out.ty hk6 (by decide) (by decide))
  have HM6 := Lib.hid (HM5.out.ty hk6 hch6 (by decide))
  have HBL6 := Lib.hid (HBL5.out.ty hk6 (by decide) (by decide))
  clear hf1 hT6 hb6 hk6 hch6 HI5 HT5 HST5 HM5 HBL5
  go_wp2_with fail
  refine (forget_none w.heap.size s tb sb mb 100 1 1 1 w6 HI6.out.stk HT6.out).mono ?_
  rintro e w7 ⟨rfl, hb7⟩
  have HI7 := Lib.hid (HI6.out.later hb7)
  have HT7 := Lib.hid (HT6.out.later hb7)
  have HST7 := Lib.hid (HST6.out.later hb7)
  have HM7 := Lib.hid (HM6.out.later hb7)
  have HBL7 := Lib.hid (HBL6.out.later hb7)
  clear hb7 HI6 HT6 HST6 HM6 HBL6
  go_wp2_with fail
  have hsb := sbytes_c w.heap.size s tb sb mb 100 [] 1 1 (fun _ => bl) (fun _ => kind) w7 HI7.out.stk HT7.out (fun e he => absurd he (List.not_mem_nil))
  rw [sum_none] at hsb
  refine hsb.mono ?_
  rintro e w8 ⟨rfl, hb8⟩
  have HI8 := Lib.hid (HI7.out.later hb8)
  have HT8 := Lib.hid (HT7.out.later hb8)
  have HST8 := Lib.hid (HST7.out.later hb8)
  have HM8 := Lib.hid (HM7.out.later hb8)
  have HBL8 := Lib.hid (HBL7.out.later hb8)
  clear hb8 hsb HI7 HT7 HST7 HM7 HBL7
  have o0 : w8.cell? ⟨w2.heap.size, 0, none⟩ = some (.string ⟨#[]⟩) := Lib.cell_of_heap HI8.out.ori 0
  have o1 : w8.cell? ⟨w2.heap.size, 1, none⟩ = some (.string ⟨#[]⟩) := Lib.cell_of_heap HI8.out.ori 1
  have o2 : w8.cell? ⟨w2.heap.size, 2, none⟩ = some (.int .i64 0) := Lib.cell_of_heap HI8.out.ori 2
  have o3 : w8.cell? ⟨w2.heap.size, 3, none⟩ = some (.int .i64 nonce) := Lib.cell_of_heap HI8.out.ori 3
  go_wp2_with fail
  -- Fetch
  obtain ⟨k1, k2, k3⟩ := HM.out w8 HI8.out.bel
  have hft := fetch_found w.heap.size s tb sb mb 100 2 ⟨nameOf l, ⟨#[]⟩, ⟨#[]⟩, 0, nonce, blk⟩ l bl _ ⟨#[]⟩ 0 nonce m w8 HLG.out.1 HLG.out.2 HI8.out.stk HST8.out rfl rfl rfl HBL8.out (by omega) k1 k2 k3
  unfold oriV at hft
  refine hft.mono ?_
  rintro e w9 ⟨aa, acap, rfl, hv9, hb9⟩
  have HI9 := Lib.hid (HI8.out.later hb9)
  have HT9 := Lib.hid (HT8.out.later hb9)
  have HST9 := Lib.hid (HST8.out.later hb9)
  have HM9 := Lib.hid (HM8.out.later hb9)
  have HV9 := Lib.hid (hv9.base HI8.out.bel.size)
  clear hft hv9 hb9 HI8 HT8 HST8 HM8 HBL8 k1 k2 k3 o0 o1 o2 o3
  generalize (⟨(kindF kind.data.toList).toArray⟩ : ByteArray) = kk at *
  unfold ansV
  -- the answer's variable
  have hal : Below w9.heap.size w9 (w9.alloc (.cells #[.int .i64 1, .int .i64 200, .int .i64 0, .int .i64 (bl.length : Int), .string kk, .slice aa bl.length acap] 47)) := (Below.refl _ _).alloc (Nat.le_refl _) _
  have han : (w9.alloc (.cells #[.int .i64 1, .int .i64 200, .int .i64 0, .int .i64 (bl.length : Int), .string kk, .slice aa bl.length acap] 47)).heap[w9.heap.size]? = some (.cells #[.int .i64 1, .int .i64 200, .int .i64 0, .int .i64 (bl.length : Int), .string kk, .slice aa bl.length acap] 47 (0, 0)) := heap_last _ _
  have HI10 := Lib.hid (HI9.out.later hal)
  have HT10 := Lib.hid (HT9.out.later hal)
  have HST10 := Lib.hid (HST9.out.later hal)
  have HM10 := Lib.hid (HM9.out.later hal)
  have HV10 := Lib.hid (HV9.out.later hal)
  obtain ⟨W10, hW10⟩ : ∃ W, W = w9.alloc (.cells #[.int .i64 1, .int .i64 200, .int .i64 0, .int .i64 (bl.length : Int), .string kk, .slice aa bl.length acap] 47) := ⟨_, rfl⟩
  rw [← hW10] at han HI10 HT10 HST10 HM10 HV10
  have HW10 := Lib.hid hW10.symm
  have HAN := Lib.hid han
  have n1lt : w2.heap.size < W10.heap.size := (Array.getElem?_eq_some_iff.1 HI10.out.ori).1
  have nzlt : w.heap.size < W10.heap.size := (Array.getElem?_eq_some_iff.1 HI10.out.rnd).1
  clear hW10 hal han HI9 HT9 HST9 HM9 HV9
  have o0 : W10.cell? ⟨w2.heap.size, 0, none⟩ = some (.string ⟨#[]⟩) := Lib.cell_of_heap HI10.out.ori 0
  have o1 : W10.cell? ⟨w2.heap.size, 1, none⟩ = some (.string ⟨#[]⟩) := Lib.cell_of_heap HI10.out.ori 1
  have o2 : W10.cell? ⟨w2.heap.size, 2, none⟩ = some (.int .i64 0) := Lib.cell_of_heap HI10.out.ori 2
  have o3 : W10.cell? ⟨w2.heap.size, 3, none⟩ = some (.int .i64 nonce) := Lib.cell_of_heap HI10.out.ori 3
  have x0 : W10.cell? ⟨w.heap.size, 0, none⟩ = some (.int .u8 b0) := Lib.cell_of_heap HI10.out.rnd 0
  have x1 : W10.cell? ⟨w.heap.size, 1, none⟩ = some (.int .u8 b1) := Lib.cell_of_heap HI10.out.rnd 1
  have x2 : W10.cell? ⟨w.heap.size, 2, none⟩ = some (.int .u8 b2) := Lib.cell_of_heap HI10.out.rnd 2
  have x3 : W10.cell? ⟨w.heap.size, 3, none⟩ = some (.int .u8 b3) := Lib.cell_of_heap HI10.out.rnd 3
  have x4 : W10.cell? ⟨w.heap.size, 4, none⟩ = some (.int .u8 b4) := Lib.cell_of_heap HI10.out.rnd 4
  have x5 : W10.cell? ⟨w.heap.size, 5, none⟩ = some (.int .u8 b5) := Lib.cell_of_heap HI10.out.rnd 5
  have x6 : W10.cell? ⟨w.heap.size, 6, none⟩ = some (.int .u8 b6) := Lib.cell_of_heap HI10.out.rnd 6
  have x7 : W10.cell? ⟨w.heap.size, 7, none⟩ = some (.int .u8 b7) := Lib.cell_of_heap HI10.out.rnd 7
  have x8 : W10.cell? ⟨w.heap.size, 8, none⟩ = some (.int .u8 b8) := Lib.cell_of_heap HI10.out.rnd 8
  have x9 : W10.cell? ⟨w.heap.size, 9, none⟩ = some (.int .u8 b9) := Lib.cell_of_heap HI10.out.rnd 9
  have x10 : W10.cell? ⟨w.heap.size, 10, none⟩ = some (.int .u8 b10) := Lib.cell_of_heap HI10.out.rnd 10
  have x11 : W10.cell? ⟨w.heap.size, 11, none⟩ = some (.int .u8 b11) := Lib.cell_of_heap HI10.out.rnd 11
  have x12 : W10.cell? ⟨w.heap.size, 12, none⟩ = some (.int .u8 b12) := Lib.cell_of_heap HI10.out.rnd 12
  have x13 : W10.cell? ⟨w.heap.size, 13, none⟩ = some (.int .u8 b13) := Lib.cell_of_heap HI10.out.rnd 13
  have x14 : W10.cell? ⟨w.heap.size, 14, none⟩ = some (.int .u8 b14) := Lib.cell_of_heap HI10.out.rnd 14
  have x15 : W10.cell? ⟨w.heap.size, 15, none⟩ = some (.int .u8 b15) := Lib.cell_of_heap HI10.out.rnd 15
  go_wp2_with (rw [HW10.out])
  -- Register of what is gone
  have hrn := sregister_none w.heap.size s tb sb mb 100 1 1 1 ⟨#[]⟩ ⟨#[]⟩ 0 nonce (rndA b0 b1 b2 b3 b4 b5 b6 b7 b8 b9 b10 b11 b12 b13 b14 b15) W10 HI10.out.stk HT10.out
  unfold rndA oriV at hrn
  refine hrn.mono ?_
  rintro e w11 ⟨rfl, hb11⟩
  have HI11 := Lib.hid (HI10.out.later hb11)
  have HST11 := Lib.hid (HST10.out.later hb11)
  have HM11 := Lib.hid (HM10.out.later hb11)
  have HV11 := Lib.hid (HV10.out.later hb11)
  have HAN11 := Lib.hid ((hb11.block _ (Array.getElem?_eq_some_iff.1 HAN.out).1).trans HAN.out)
  clear hrn hb11 HW10 HI10 HT10 HST10 HM10 HV10 HAN n1lt nzlt o0 o1 o2 o3 x0 x1 x2 x3 x4 x5 x6 x7 x8 x9 x10 x11 x12 x13 x14 x15
  go_wp2_with fail
  -- Notice
  refine (notice_of w.heap.size s tb sb mb 2 100 (plusOf l) false [] [] w11 HI11.out.stk (take_plain w.heap.size mb 2 (plusOf l) [] w11 HM11.out)).mono ?_
  rintro e w12 ⟨rfl, hM12, hb12, hk12⟩
  have HI12 := Lib.hid (HI11.out.ty hk12 hb12 (by decide) (by decide) (by decide))
  have HST12 := Lib.hid (HST11.out.ty hk12 (by decide) (by decide))
  have HM12 := Lib.hid hM12
  have han12 := (hk12 _ _ _ _ HAN11.out (by decide)).trans HAN11.out
  have hcv1 := conv_own (own_ty HV11.out hk12 (by decide))
  have hcv2 := conv_src (HSRC.out.later HI12.out.bel)
  have a1 : w12.cell? ⟨w9.heap.size, 1, none⟩ = some (.int .i64 200) := Lib.cell_of_heap han12 1
  have a5 : w12.cell? ⟨w9.heap.size, 5, none⟩ = some (.slice aa bl.length acap) := Lib.cell_of_heap han12 5
  have hnz := nameOf_size l HLG.out.1
  have e1 : ∀ W, (Op.stringOp .add ⟨#[43]⟩ (nameOf l)).run Tryz.prog W = .ok (.string (plusOf l)) W := fun W => run_string_add_sum W ⟨#[43]⟩ (nameOf l) (by rw [hnz]; decide)
  have e2 : ∀ W, (Op.stringOp .add (nameOf l) ⟨#[35, 120]⟩).run Tryz.prog W = .ok (.string (fragOf l 120)) W := fun W => run_string_add_sum W (nameOf l) ⟨#[35, 120]⟩ (by rw [hnz]; decide)
  have e3 : ∀ W, (Op.stringOp .add ⟨#[45]⟩ (nameOf l)).run Tryz.prog W = .ok (.string (minusOf (nameOf l))) W := fun W => run_string_add_sum W ⟨#[45]⟩ (nameOf l) (by rw [hnz]; decide)
  have n1lt : w2.heap.size < w12.heap.size := (Array.getElem?_eq_some_iff.1 HI12.out.ori).1
  clear hM12 hb12 hk12 han12 HI11 HST11 HM11 HV11 HAN11 hnz
  have o0 : w12.cell? ⟨w2.heap.size, 0, none⟩ = some (.string ⟨#[]⟩) := Lib.cell_of_heap HI12.out.ori 0
  have o1 : w12.cell? ⟨w2.heap.size, 1, none⟩ = some (.string ⟨#[]⟩) := Lib.cell_of_heap HI12.out.ori 1
  have o2 : w12.cell? ⟨w2.heap.size, 2, none⟩ = some (.int .i64 0) := Lib.cell_of_heap HI12.out.ori 2
  have o3 : w12.cell? ⟨w2.heap.size, 3, none⟩ = some (.int .i64 nonce) := Lib.cell_of_heap HI12.out.ori 3
  go_wp2_with fail
  -- Revoke
  have hrv := srevoke_c w.heap.size s tb sb mb 100 2 [] [] ⟨nameOf l, ⟨#[]⟩, ⟨#[]⟩, 0, nonce, blk⟩ (fragOf l 120) (opqPF blobL (nullL l) [120]) ⟨#[]⟩ 0 nonce w12 HI12.out.stk HST12.out HM12.out (by decide) rfl rfl (by rw [nameOf_size l HLG.out.1]; decide)
    (fun W hb => by
      obtain ⟨k1, k2, k3⟩ := HM.out W (HI12.out.bel.trans (hb.mono HI12.out.bel.size))
      exact parse_frag l 120 (by decide) HLG.out.1 HLG.out.2 m W k1 k2 k3)
    (fun pa pn pc W => bare_frag l 120 HLG.out.1 pa pn pc W)
  unfold oriV at hrv
  refine hrv.mono ?_
  rintro e w13 ⟨rfl, hst13, hm13, hb13, hk13⟩
  have HI13 := Lib.hid (HI12.out.ty hk13 hb13 (by decide) (by decide) (by decide))
  have HST13 := Lib.hid hst13
  have HM13 := Lib.hid hm13
  clear hrv hst13 hm13 hb13 hk13 HI12 HST12 HM12 o0 o1 o2 o3 n1lt a1 a5 hcv1 hcv2
  go_wp2_with fail
  -- Notice
  refine (notice_of w.heap.size s tb sb mb 2 100 (minusOf (nameOf l)) true [] [] w13 HI13.out.stk (take_urgent w.heap.size mb 2 (minusOf (nameOf l)) [] [] w13 HM13.out)).mono ?_
  rintro e w14 ⟨rfl, hM14, hb14, hk14⟩
  have HI14 := Lib.hid (HI13.out.ty hk14 hb14 (by decide) (by decide) (by decide))
  have HST14 := Lib.hid (HST13.out.ty hk14 (by decide) (by decide))
  have n1lt : w2.heap.size < w14.heap.size := (Array.getElem?_eq_some_iff.1 HI14.out.ori).1
  clear hM14 hb14 hk14 HI13 HST13 HM13
  have o0 : w14.cell? ⟨w2.heap.size, 0, none⟩ = some (.string ⟨#[]⟩) := Lib.cell_of_heap HI14.out.ori 0
  have o1 : w14.cell? ⟨w2.heap.size, 1, none⟩ = some (.string ⟨#[]⟩) := Lib.cell_of_heap HI14.out.ori 1
  have o2 : w14.cell? ⟨w2.heap.size, 2, none⟩ = some (.int .i64 0) := Lib.cell_of_heap HI14.out.ori 2
  have o3 : w14.cell? ⟨w2.heap.size, 3, none⟩ = some (.int .i64 nonce) := Lib.cell_of_heap HI14.out.ori 3
  go_wp2_with fail
  -- Revoke of what is gone
  have hrv := srevoke_no w.heap.size s tb sb mb 100 2 [] (nameOf l) (nameOf l) (opqP blobL (nullL l)) ⟨#[]⟩ 0 nonce w14 HI14.out.stk HST14.out (fun e he => absurd he (List.not_mem_nil)) (own_nil _ _)
    (fun W hb => by
      obtain ⟨k1, k2, k3⟩ := HM.out W (HI14.out.bel.trans (hb.mono HI14.out.bel.size))
      exact parse_name l HLG.out.1 HLG.out.2 m W k1 k2 k3)
    (fun pa pn pc W => bare_name l HLG.out.1 pa pn pc W)
  unfold oriV at hrv
  refine hrv.mono ?_
  rintro e w15 ⟨rfl, hb15⟩
  have HI15 := Lib.hid (HI14.out.later hb15)
  have HST15 := Lib.hid (HST14.out.later hb15)
  have n1lt2 : w2.heap.size < w15.heap.size := (Array.getElem?_eq_some_iff.1 HI15.out.ori).1
  clear hrv hb15 HI14 HST14 o0 o1 o2 o3 n1lt
  have o0 : w15.cell? ⟨w2.heap.size, 0, none⟩ = some (.string ⟨#[]⟩) := Lib.cell_of_heap HI15.out.ori 0
  have o1 : w15.cell? ⟨w2.heap.size, 1, none⟩ = some (.string ⟨#[]⟩) := Lib.cell_of_heap HI15.out.ori 1
  have o2 : w15.cell? ⟨w2.heap.size, 2, none⟩ = some (.int .i64 0) := Lib.cell_of_heap HI15.out.ori 2
  have o3 : w15.cell? ⟨w2.heap.size, 3, none⟩ = some (.int .i64 nonce) := Lib.cell_of_heap HI15.out.ori 3
  go_wp2_with fail
  -- Fetch of what is gone
  obtain ⟨k1, k2, k3⟩ := HM.out w15 HI15.out.bel
  have hft := fetch_gone w.heap.size s tb sb mb 100 2 l ⟨#[]⟩ 0 nonce m w15 HLG.out.1 HLG.out.2 HI15.out.stk HST15.out k1 k2 k3
  unfold oriV at hft
  refine hft.mono ?_
  rintro e w16 ⟨rfl, hb16⟩
  have HI16 := Lib.hid (HI15.out.later hb16)
  have HST16 := Lib.hid (HST15.out.later hb16)
  clear hft hb16 HI15 HST15 o0 o1 o2 o3 n1lt2 k1 k2 k3
  have hfs := fun W => field_status 1 0 0 0 ⟨#[]⟩ none 0 0 W
  unfold ansV at hfs ⊢
  go_wp2_with fail
  refine (surls_none w.heap.size s tb sb mb 100 2 w16 HI16.out.stk HST16.out).mono ?_
  rintro e w17 ⟨rfl, hb17⟩
  have HI17 := Lib.hid (HI16.out.later hb17)
  clear hb17 HI16 HST16
  go_wp2_with fail
  go_ret
  exact ⟨rfl, HI17.out.bel⟩
end Go.Proofs.YtibgiohijknmbaaGreatDoor

/-
  StackGoes of long inputs.
-/
namespace Go.Proofs.YtibgiohijknmbaaGreatDoor
open Go.RowKit
set_option linter.unusedVariables false
set_option linter.unusedSimpArgs false

set_option maxRecDepth 100000 in
set_option maxHeartbeats 2000000 in
theorem goes_long (n : Nat) (ba : Option Addr) (bcap : Nat) (kind : ByteArray) (b0 b1 b2 b3 b4 b5 b6 b7 b8 b9 b10 b11 b12 b13 b14 b15 nonce m : Int) (w : World) (hlong : 100 < n ∨ 100 < kind.size) (hm : w.cell? ⟨0, 0, none⟩ = some (.int .i64 m)) (h0 : 0 < w.heap.size) :
    Calls Tryz.prog 4 #[.slice ba n bcap, .string kind, .agg (rndA b0 b1 b2 b3 b4 b5 b6 b7 b8 b9 b10 b11 b12 b13 b14 b15), .int .i64 nonce] w fun e w' => e = .returned (.bool true) ∧ Below w.heap.size w w' := by
  have hbz : Below w.heap.size w (w.alloc (.cells (rndA b0 b1 b2 b3 b4 b5 b6 b7 b8 b9 b10 b11 b12 b13 b14 b15) 33)) := (Below.refl _ _).alloc (Nat.le_refl _) _
  obtain ⟨W0, hW0⟩ : ∃ W, W = w.alloc (.cells (rndA b0 b1 b2 b3 b4 b5 b6 b7 b8 b9 b10 b11 b12 b13 b14 b15) 33) := ⟨_, rfl⟩
  rw [← hW0] at hbz
  unfold rndA at hW0 ⊢
  have HW : Hid (w.alloc (.cells #[.int .u8 b0, .int .u8 b1, .int .u8 b2, .int .u8 b3, .int .u8 b4, .int .u8 b5, .int .u8 b6, .int .u8 b7, .int .u8 b8, .int .u8 b9, .int .u8 b10, .int .u8 b11, .int .u8 b12, .int .u8 b13, .int .u8 b14, .int .u8 b15] 33) = W0) := Lib.hid hW0.symm
  have HM : Hid (∀ W, Below w.heap.size w W → W.cell? ⟨0, 0, none⟩ = some (.int .i64 m) ∧ 0 < W.heap.size) := Lib.hid fun W hb => ⟨(hb.cell (p := ⟨0, 0, none⟩) h0).trans hm, Nat.lt_of_lt_of_le h0 hb.size⟩
  have HBZ := Lib.hid hbz
  clear hW0 hbz hm h0
  by_cases hn : 100 < n
  · have L1 : 100 < (n : Int) := by omega
    have L2 : ¬ (n : Int) ≤ 100 := by omega
    clear hlong hn
    go_enter Tryz.func4, Tryz.ntmps4
    go_wp2_with (rw [HW.out])
    obtain ⟨m0, m1⟩ := HM.out W0 HBZ.out
    refine (awake_c m W0 m0 m1).mono ?_
    rintro e w1 ⟨rfl, hb1⟩
    clear m0 m1
    go_wp2_with fail
    obtain ⟨m0, m1⟩ := HM.out w1 (HBZ.out.trans (hb1.mono HBZ.out.size))
    refine (awake_c m w1 m0 m1).mono ?_
    rintro e w2 ⟨rfl, hb2⟩
    have HB2 := Lib.hid ((HBZ.out.trans (hb1.mono HBZ.out.size)).trans (hb2.mono (HBZ.out.trans (hb1.mono HBZ.out.size)).size))
    clear m0 m1 hb1 hb2
    go_wp2_with fail
    go_ret
    exact ⟨rfl, HB2.out⟩
  · have L1 : ¬ 100 < (n : Int) := by omega
    have L3 : (n : Int) ≤ 100 := by omega
    have L2 : 100 < (kind.size : Int) := by omega
    have L4 : ¬ (kind.size : Int) ≤ 100 := by omega
    clear hlong hn
    go_enter Tryz.func4, Tryz.ntmps4
    go_wp2_with (rw [HW.out])
    obtain ⟨m0, m1⟩ := HM.out W0 HBZ.out
    refine (awake_c m W0 m0 m1).mono ?_
    rintro e w1 ⟨rfl, hb1⟩
    clear m0 m1
    go_wp2_with fail
    obtain ⟨m0, m1⟩ := HM.out w1 (HBZ.out.trans (hb1.mono HBZ.out.size))
    refine (awake_c m w1 m0 m1).mono ?_
    rintro e w2 ⟨rfl, hb2⟩
    have HB2 := Lib.hid ((HBZ.out.trans (hb1.mono HBZ.out.size)).trans (hb2.mono (HBZ.out.trans (hb1.mono HBZ.out.size)).size))
    clear m0 m1 hb1 hb2
    go_wp2_with fail
    go_ret
    exact ⟨rfl, HB2.out⟩
end Go.Proofs.YtibgiohijknmbaaGreatDoor
