/-
  Joined texts: SRv2, SRv3.
-/
import Derived.Test.YtibgiohijknmbaaGreatDoorM23
import Derived.Test.YtibgiohijknmbaaGreatDoorM14
/-
  (*Stack).Revoke of the only entry, and of none.
-/
namespace Go.Proofs.YtibgiohijknmbaaGreatDoor
open Go.RowKit Go.Conc
set_option linter.unusedVariables false
set_option linter.unusedSimpArgs false

def minusOf (x : ByteArray) : ByteArray := ⟨#[45]⟩ ++ x
def SRevokeOk (B sb mb room : Nat) (us ps : List ByteArray) (x : ByteArray) (w : World) (e : Ending) (w' : World) : Prop :=
  e = .returned (.bool true) ∧ StoreAt w' B sb [] room ∧ MailAt w' B mb room (us ++ [minusOf x]) ps ∧ Below B w w' ∧ TyKept stoTs w w'
set_option maxRecDepth 100000 in
set_option maxHeartbeats 4000000 in
theorem srevoke_c (B s tb sb mb : Nat) (most : Int) (room : Nat) (us ps : List ByteArray) (en : SEnt) (name : ByteArray) (p : PSt) (oh : ByteArray) (op on : Int) (w : World)
    (hS : StackAt w B s tb sb mb most) (hSt : StoreAt w B sb [en] room) (hM : MailAt w B mb room us ps) (hus : us.length < room) (hsch : en.sch = ⟨#[]⟩) (hon : en.nonce = on) (hz : en.url.size ≤ 1073741824)
    (hP : ∀ W, Below w.heap.size w W → Calls Tryz.prog 26 #[.string name, .pointer none] W (ParseIs W p))
    (hbare : ∀ pa pn pc W, Calls Tryz.prog 37 #[.agg (PSt.url { p with path := .slice pa pn pc })] W fun e w' => e = .returned (.string en.url) ∧ Below W.heap.size W w') :
    Calls Tryz.prog 15 #[.pointer (some ⟨s, 0, none⟩), .string name, .agg (oriV ⟨#[]⟩ oh op on)] w (SRevokeOk B sb mb room us ps en.url w) := by
  have hBw : B ≤ w.heap.size := Nat.le_trans hS.1 (Nat.le_of_lt hS.lt)
  have hb0 : Below w.heap.size w (w.alloc (.cells (oriV ⟨#[]⟩ oh op on) 23)) := (Below.refl _ _).alloc (Nat.le_refl _) _
  have ho0 : (w.alloc (.cells (oriV ⟨#[]⟩ oh op on) 23)).heap[w.heap.size]? = some (.cells (oriV ⟨#[]⟩ oh op on) 23 (0, 0)) := heap_last _ _
  have hP0 := hP _ hb0
  have HS0 := Lib.hid (hS.later hb0)
  have HSt0 := Lib.hid (hSt.later hb0)
  have HM0 := Lib.hid (hM.later hb0)
  obtain ⟨W0, hW0⟩ : ∃ W, W = w.alloc (.cells (oriV ⟨#[]⟩ oh op on) 23) := ⟨_, rfl⟩
  rw [← hW0] at hb0 ho0 hP0 HS0 HSt0 HM0
  unfold oriV at hW0 ho0 ⊢
  have HW : Hid (w.alloc (.cells #[.string ⟨#[]⟩, .string oh, .int .i64 op, .int .i64 on] 23) = W0) := Lib.hid hW0.symm
  have HB0 := Lib.hid hb0
  have HO0 := Lib.hid ho0
  clear hW0 ho0 hb0 hS hSt hM hP
  go_enter Tryz.func15, Tryz.ntmps15
  go_wp2_with (rw [HW.out])
  refine hP0.mono ?_
  rintro e w1 ⟨pa, pn, pc, rfl, hb1⟩
  have hbr := fun W => hbare pa pn pc W
  unfold PSt.url at hbr ⊢
  simp only at hbr ⊢
  have hal : Below w1.heap.size w1 (w1.alloc (.cells #[.string p.sch, .string p.user, .string p.pass, .string p.host, .bool p.hasHost, .int .i64 p.port, .bool p.opq, .string p.text, .slice pa pn pc, .bool p.hasQ, .bool p.hasF, .string p.query, .string p.frag] 41)) := (Below.refl _ _).alloc (Nat.le_refl _) _
  have hu1 : (w1.alloc (.cells #[.string p.sch, .string p.user, .string p.pass, .string p.host, .bool p.hasHost, .int .i64 p.port, .bool p.opq, .string p.text, .slice pa pn pc, .bool p.hasQ, .bool p.hasF, .string p.query, .string p.frag] 41)).heap[w1.heap.size]? = some (.cells #[.string p.sch, .string p.user, .string p.pass, .string p.host, .bool p.hasHost, .int .i64 p.port, .bool p.opq, .string p.text, .slice pa pn pc, .bool p.hasQ, .bool p.hasF, .string p.query, .string p.frag] 41 (0, 0)) := heap_last _ _
  have hB1 : Below W0.heap.size W0 (w1.alloc (.cells #[.string p.sch, .string p.user, .string p.pass, .string p.host, .bool p.hasHost, .int .i64 p.port, .bool p.opq, .string p.text, .slice pa pn pc, .bool p.hasQ, .bool p.hasF, .string p.query, .string p.frag] 41)) := hb1.trans (hal.mono hb1.size)
  have hsz1 : (w1.alloc (.cells #[.string p.sch, .string p.user, .string p.pass, .string p.host, .bool p.hasHost, .int .i64 p.port, .bool p.opq, .string p.text, .slice pa pn pc, .bool p.hasQ, .bool p.hasF, .string p.query, .string p.frag] 41)).heap.size = w1.heap.size + 1 := by simp
  obtain ⟨W1, hW1⟩ : ∃ W, W = w1.alloc (.cells #[.string p.sch, .string p.user, .string p.pass, .string p.host, .bool p.hasHost, .int .i64 p.port, .bool p.opq, .string p.text, .slice pa pn pc, .bool p.hasQ, .bool p.hasF, .string p.query, .string p.frag] 41) := ⟨_, rfl⟩
  rw [← hW1] at hu1 hB1 hsz1
  have HW1 : Hid (w1.alloc (.cells #[.string p.sch, .string p.user, .string p.pass, .string p.host, .bool p.hasHost, .int .i64 p.port, .bool p.opq, .string p.text, .slice pa pn pc, .bool p.hasQ, .bool p.hasF, .string p.query, .string p.frag] 41) = W1) := Lib.hid hW1.symm
  have hS1 := HS0.out.later hB1
  have hlo : w.heap.size < W1.heap.size := by have := (Array.getElem?_eq_some_iff.1 HO0.out).1; have := hB1.size; omega
  have hlu : w1.heap.size < W1.heap.size := by omega
  have hls := hS1.lt
  have HS1 := Lib.hid hS1
  have HSt1 := Lib.hid (HSt0.out.later hB1)
  have HM1 := Lib.hid (HM0.out.later hB1)
  have KP : Hid (∀ W, TyKept stoTs W1 W → W.cell? ⟨s, 1, none⟩ = some (.pointer (some ⟨sb, 0, none⟩)) ∧ W.cell? ⟨w1.heap.size, 0, none⟩ = some (.string p.sch) ∧ W.cell? ⟨w1.heap.size, 1, none⟩ = some (.string p.user) ∧ W.cell? ⟨w1.heap.size, 2, none⟩ = some (.string p.pass) ∧ W.cell? ⟨w1.heap.size, 3, none⟩ = some (.string p.host) ∧ W.cell? ⟨w1.heap.size, 4, none⟩ = some (.bool p.hasHost) ∧ W.cell? ⟨w1.heap.size, 5, none⟩ = some (.int .i64 p.port) ∧ W.cell? ⟨w1.heap.size, 6, none⟩ = some (.bool p.opq) ∧ W.cell? ⟨w1.heap.size, 7, none⟩ = some (.string p.text) ∧ W.cell? ⟨w1.heap.size, 8, none⟩ = some (.slice pa pn pc) ∧ W.cell? ⟨w1.heap.size, 9, none⟩ = some (.bool p.hasQ) ∧ W.cell? ⟨w1.heap.size, 10, none⟩ = some (.bool p.hasF) ∧ W.cell? ⟨w1.heap.size, 11, none⟩ = some (.string p.query) ∧ W.cell? ⟨w1.heap.size, 12, none⟩ = some (.string p.frag) ∧ W.cell? ⟨w.heap.size, 0, none⟩ = some (.string ⟨#[]⟩) ∧ W.cell? ⟨w.heap.size, 1, none⟩ = some (.string oh) ∧ W.cell? ⟨w.heap.size, 2, none⟩ = some (.int .i64 op) ∧ W.cell? ⟨w.heap.size, 3, none⟩ = some (.int .i64 on)) := Lib.hid fun W hk => by
    have h := (hk _ _ _ _ ((hB1.block _ (Array.getElem?_eq_some_iff.1 HO0.out).1).trans HO0.out) (by decide)).trans ((hB1.block _ (Array.getElem?_eq_some_iff.1 HO0.out).1).trans HO0.out)
    have h' := (hk _ _ _ _ hu1 (by decide)).trans hu1
    have h2 := (hk _ _ _ _ HS1.out.2 (by decide)).trans HS1.out.2
    exact ⟨Lib.cell_of_heap h2 1, Lib.cell_of_heap h' 0, Lib.cell_of_heap h' 1, Lib.cell_of_heap h' 2, Lib.cell_of_heap h' 3, Lib.cell_of_heap h' 4, Lib.cell_of_heap h' 5, Lib.cell_of_heap h' 6, Lib.cell_of_heap h' 7, Lib.cell_of_heap h' 8, Lib.cell_of_heap h' 9, Lib.cell_of_heap h' 10, Lib.cell_of_heap h' 11, Lib.cell_of_heap h' 12, Lib.cell_of_heap h 0, Lib.cell_of_heap h 1, Lib.cell_of_heap h 2, Lib.cell_of_heap h 3⟩
  have KP2 : Hid (∀ W, TyKept stoTs W1 W → W.cell? ⟨s, 2, none⟩ = some (.pointer (some ⟨mb, 0, none⟩)) ∧ W.cell? ⟨w1.heap.size, 0, none⟩ = some (.string p.sch) ∧ W.cell? ⟨w1.heap.size, 1, none⟩ = some (.string p.user) ∧ W.cell? ⟨w1.heap.size, 2, none⟩ = some (.string p.pass) ∧ W.cell? ⟨w1.heap.size, 3, none⟩ = some (.string p.host) ∧ W.cell? ⟨w1.heap.size, 4, none⟩ = some (.bool p.hasHost) ∧ W.cell? ⟨w1.heap.size, 5, none⟩ = some (.int .i64 p.port) ∧ W.cell? ⟨w1.heap.size, 6, none⟩ = some (.bool p.opq) ∧ W.cell? ⟨w1.heap.size, 7, none⟩ = some (.string p.text) ∧ W.cell? ⟨w1.heap.size, 8, none⟩ = some (.slice pa pn pc) ∧ W.cell? ⟨w1.heap.size, 9, none⟩ = some (.bool p.hasQ) ∧ W.cell? ⟨w1.heap.size, 10, none⟩ = some (.bool p.hasF) ∧ W.cell? ⟨w1.heap.size, 11, none⟩ = some (.string p.query) ∧ W.cell? ⟨w1.heap.size, 12, none⟩ = some (.string p.frag) ∧ W.cell? ⟨w.heap.size, 0, none⟩ = some (.string ⟨#[]⟩) ∧ W.cell? ⟨w.heap.size, 1, none⟩ = some (.string oh) ∧ W.cell? ⟨w.heap.size, 2, none⟩ = some (.int .i64 op) ∧ W.cell? ⟨w.heap.size, 3, none⟩ = some (.int .i64 on)) := Lib.hid fun W hk => by
    have h := KP.out W hk
    have h2 := (hk _ _ _ _ HS1.out.2 (by decide)).trans HS1.out.2
    exact ⟨Lib.cell_of_heap h2 2, h.2⟩
  have HK1 : Hid (Below B w W1 ∧ TyKept stoTs w W1) := Lib.hid ⟨(HB0.out.trans (hB1.mono HB0.out.size)).mono hBw, ty_below (HB0.out.trans (hB1.mono HB0.out.size)) _⟩
  have hBW1 : B ≤ W1.heap.size := by have := HB0.out.size; have := hB1.size; omega
  have hrv := srev_c B sb en room p.sch p.user p.pass p.host p.hasHost p.port p.opq p.text pa pn pc p.hasQ p.hasF p.query p.frag oh op on W1.drew hBW1 (HSt1.out.later ((Below.refl _ _).drew)) hsch hon (fun W _ => hbr W)
  unfold oriV at hrv
  have HBR := Lib.hid hbr
  clear hal hu1 hB1 hsz1 hW1 hS1 hbare hP0 hb1 hbr
  obtain ⟨r0, r1, r2, r3, r4, r5, r6, r7, r8, r9, r10, r11, r12, r13, r14, r15, r16, r17⟩ := KP.out W1 (ty_below (Below.refl _ _) _)
  go_wp2_with (rw [HW1.out])
  go_region_held3 (fun W => W.cell? ⟨s, 1, none⟩ = some (.pointer (some ⟨sb, 0, none⟩)) ∧ W.cell? ⟨w1.heap.size, 0, none⟩ = some (.string p.sch) ∧ W.cell? ⟨w1.heap.size, 1, none⟩ = some (.string p.user) ∧ W.cell? ⟨w1.heap.size, 2, none⟩ = some (.string p.pass) ∧ W.cell? ⟨w1.heap.size, 3, none⟩ = some (.string p.host) ∧ W.cell? ⟨w1.heap.size, 4, none⟩ = some (.bool p.hasHost) ∧ W.cell? ⟨w1.heap.size, 5, none⟩ = some (.int .i64 p.port) ∧ W.cell? ⟨w1.heap.size, 6, none⟩ = some (.bool p.opq) ∧ W.cell? ⟨w1.heap.size, 7, none⟩ = some (.string p.text) ∧ W.cell? ⟨w1.heap.size, 8, none⟩ = some (.slice pa pn pc) ∧ W.cell? ⟨w1.heap.size, 9, none⟩ = some (.bool p.hasQ) ∧ W.cell? ⟨w1.heap.size, 10, none⟩ = some (.bool p.hasF) ∧ W.cell? ⟨w1.heap.size, 11, none⟩ = some (.string p.query) ∧ W.cell? ⟨w1.heap.size, 12, none⟩ = some (.string p.frag) ∧ W.cell? ⟨w.heap.size, 0, none⟩ = some (.string ⟨#[]⟩) ∧ W.cell? ⟨w.heap.size, 1, none⟩ = some (.string oh) ∧ W.cell? ⟨w.heap.size, 2, none⟩ = some (.int .i64 op) ∧ W.cell? ⟨w.heap.size, 3, none⟩ = some (.int .i64 on)) (first | go_keep | (exact KP.out _ hk3))
    (first | (go_at_call 36; refine hrv.mono ?_; rintro e w3 ⟨rfl, hst3, hb3, hk3, hch3⟩; replace hk3 : TyKept stoTs W1 w3 := hk3))
  rename_i _ _ hHeld
  have HK3 := Lib.hid hk3
  have hch3' : ChKept W1 w3 := hch3
  have hM3 := Lib.hid (HM1.out.ty hk3 hch3' (by decide))
  have HF3 : Hid (Below B w w3) := HK1.out.1.trans (((Below.refl _ _).drew).trans hb3)
  have HST3 := Lib.hid hst3
  obtain ⟨q0, q1, q2, q3, q4, q5, q6, q7, q8, q9, q10, q11, q12, q13, q14, q15, q16, q17⟩ := KP2.out w3 HK3.out
  have hmp : Hid (∀ (W : World), Below w3.heap.size w3 W → Calls Tryz.prog 32 #[.pointer (some ⟨mb, 0, none⟩), .string (minusOf en.url), .bool true] W (MPutOk B mb room (us ++ [minusOf en.url]) ps W)) := Lib.hid fun W h => mput_urgent B mb room us ps (minusOf en.url) W (hM3.out.later h) hus
  have e1 : ∀ W, (Op.stringOp .add ⟨#[45]⟩ en.url).run Tryz.prog W = .ok (.string (minusOf en.url)) W := fun W => run_string_add_sum W ⟨#[45]⟩ en.url (by show 1 + en.url.size ≤ _; omega)
  have hlo3 : w.heap.size < w3.heap.size := by have := hb3.size; simp at this; omega
  have hlu3 : w1.heap.size < w3.heap.size := by have := hb3.size; simp at this; omega
  have hls3 : s < w3.heap.size := by have := hb3.size; simp at this; omega
  clear hrv hst3 hk3 hch3 hch3' hb3 HW1 hlo hlu hls HW KP r0 r1 r2 r3 r4 r5 r6 r7 r8 r9 r10 r11 r12 r13 r14 r15 r16 r17 HSt0 HS0 HM0 HO0 hHeld
  go_wp2_with fail
  go_region_held3 (fun W => W.cell? ⟨s, 2, none⟩ = some (.pointer (some ⟨mb, 0, none⟩)) ∧ W.cell? ⟨w1.heap.size, 0, none⟩ = some (.string p.sch) ∧ W.cell? ⟨w1.heap.size, 1, none⟩ = some (.string p.user) ∧ W.cell? ⟨w1.heap.size, 2, none⟩ = some (.string p.pass) ∧ W.cell? ⟨w1.heap.size, 3, none⟩ = some (.string p.host) ∧ W.cell? ⟨w1.heap.size, 4, none⟩ = some (.bool p.hasHost) ∧ W.cell? ⟨w1.heap.size, 5, none⟩ = some (.int .i64 p.port) ∧ W.cell? ⟨w1.heap.size, 6, none⟩ = some (.bool p.opq) ∧ W.cell? ⟨w1.heap.size, 7, none⟩ = some (.string p.text) ∧ W.cell? ⟨w1.heap.size, 8, none⟩ = some (.slice pa pn pc) ∧ W.cell? ⟨w1.heap.size, 9, none⟩ = some (.bool p.hasQ) ∧ W.cell? ⟨w1.heap.size, 10, none⟩ = some (.bool p.hasF) ∧ W.cell? ⟨w1.heap.size, 11, none⟩ = some (.string p.query) ∧ W.cell? ⟨w1.heap.size, 12, none⟩ = some (.string p.frag) ∧ W.cell? ⟨w.heap.size, 0, none⟩ = some (.string ⟨#[]⟩) ∧ W.cell? ⟨w.heap.size, 1, none⟩ = some (.string oh) ∧ W.cell? ⟨w.heap.size, 2, none⟩ = some (.int .i64 op) ∧ W.cell? ⟨w.heap.size, 3, none⟩ = some (.int .i64 on)) (first | (exact KP2.out _ ((HK3.out.trans (ty_below (un_drew hb4) _)).trans (hk5.more (fun t ht => absurd ht (List.not_mem_nil))))) | (exact KP2.out _ (HK3.out.trans (ty_below (un_drew hb4) _))) | go_keep)
    (first | (go_at_call 37; refine (HBR.out _).mono ?_; rintro e w4 ⟨rfl, hb4⟩) | (go_at_call 32; refine (hmp.out w4 (un_drew hb4)).mono ?_; rintro e w5 ⟨rfl, hM5, hb5, hk5⟩))
  have hb4' := un_drew hb4
  have HF : Hid (StoreAt w5 B sb [] room ∧ MailAt w5 B mb room (us ++ [minusOf en.url]) ps ∧ Below B w w5 ∧ TyKept stoTs w w5) :=
    ⟨(HST3.out.later hb4').ty hk5 (by decide) (by decide), hM5, (HF3.out.trans (hb4'.mono (by have := HF3.out.size; omega))).trans hb5, ((HK1.out.2.trans HK3.out).trans (ty_below hb4' _)).trans (hk5.more (fun t ht => absurd ht (List.not_mem_nil)))⟩
  clear hM5 hb5 hk5 hb4 hb4'
  go_wp2_with fail
  go_ret
  exact ⟨rfl, HF.out⟩
end Go.Proofs.YtibgiohijknmbaaGreatDoor

/-
  (*Stack).Revoke of none; (*Stack).Blob; Urls of none.
-/
namespace Go.Proofs.YtibgiohijknmbaaGreatDoor
open Go.RowKit Go.Conc
set_option linter.unusedVariables false
set_option linter.unusedSimpArgs false

set_option maxRecDepth 100000 in
set_option maxHeartbeats 2000000 in
theorem srevoke_no (B s tb sb mb : Nat) (most room : Int) (ss : List SEnt) (name url : ByteArray) (p : PSt) (oh : ByteArray) (op on : Int) (w : World)
    (hS : StackAt w B s tb sb mb most) (hSt : StoreAt w B sb ss room) (hall : ∀ e ∈ ss, e.sch = ⟨#[]⟩) (hneg : ownI ss url on < 0)
    (hP : ∀ W, Below w.heap.size w W → Calls Tryz.prog 26 #[.string name, .pointer none] W (ParseIs W p))
    (hbare : ∀ pa pn pc W, Calls Tryz.prog 37 #[.agg (PSt.url { p with path := .slice pa pn pc })] W fun e w' => e = .returned (.string url) ∧ Below W.heap.size W w') :
    Calls Tryz.prog 15 #[.pointer (some ⟨s, 0, none⟩), .string name, .agg (oriV ⟨#[]⟩ oh op on)] w fun e w' => e = .returned (.bool false) ∧ Below w.heap.size w w' := by
  have hb0 : Below w.heap.size w (w.alloc (.cells (oriV ⟨#[]⟩ oh op on) 23)) := (Below.refl _ _).alloc (Nat.le_refl _) _
  have ho0 : (w.alloc (.cells (oriV ⟨#[]⟩ oh op on) 23)).heap[w.heap.size]? = some (.cells (oriV ⟨#[]⟩ oh op on) 23 (0, 0)) := heap_last _ _
  have hP0 := hP _ hb0
  have HS0 := Lib.hid (hS.later hb0)
  have HSt0 := Lib.hid (hSt.later hb0)
  obtain ⟨W0, hW0⟩ : ∃ W, W = w.alloc (.cells (oriV ⟨#[]⟩ oh op on) 23) := ⟨_, rfl⟩
  rw [← hW0] at hb0 ho0 hP0 HS0 HSt0
  unfold oriV at hW0 ho0 ⊢
  have HW : Hid (w.alloc (.cells #[.string ⟨#[]⟩, .string oh, .int .i64 op, .int .i64 on] 23) = W0) := Lib.hid hW0.symm
  have HB0 := Lib.hid hb0
  have HO0 := Lib.hid ho0
  clear hW0 ho0 hb0 hS hSt hP
  go_enter Tryz.func15, Tryz.ntmps15
  go_wp2_with (rw [HW.out])
  refine hP0.mono ?_
  rintro e w1 ⟨pa, pn, pc, rfl, hb1⟩
  have hbr := fun W => hbare pa pn pc W
  unfold PSt.url at hbr ⊢
  simp only at hbr ⊢
  have hal : Below w1.heap.size w1 (w1.alloc (.cells #[.string p.sch, .string p.user, .string p.pass, .string p.host, .bool p.hasHost, .int .i64 p.port, .bool p.opq, .string p.text, .slice pa pn pc, .bool p.hasQ, .bool p.hasF, .string p.query, .string p.frag] 41)) := (Below.refl _ _).alloc (Nat.le_refl _) _
  have hu1 : (w1.alloc (.cells #[.string p.sch, .string p.user, .string p.pass, .string p.host, .bool p.hasHost, .int .i64 p.port, .bool p.opq, .string p.text, .slice pa pn pc, .bool p.hasQ, .bool p.hasF, .string p.query, .string p.frag] 41)).heap[w1.heap.size]? = some (.cells #[.string p.sch, .string p.user, .string p.pass, .string p.host, .bool p.hasHost, .int .i64 p.port, .bool p.opq, .string p.text, .slice pa pn pc, .bool p.hasQ, .bool p.hasF, .string p.query, .string p.frag] 41 (0, 0)) := heap_last _ _
  have hB1 : Below W0.heap.size W0 (w1.alloc (.cells #[.string p.sch, .string p.user, .string p.pass, .string p.host, .bool p.hasHost, .int .i64 p.port, .bool p.opq, .string p.text, .slice pa pn pc, .bool p.hasQ, .bool p.hasF, .string p.query, .string p.frag] 41)) := hb1.trans (hal.mono hb1.size)
  have hsz1 : (w1.alloc (.cells #[.string p.sch, .string p.user, .string p.pass, .string p.host, .bool p.hasHost, .int .i64 p.port, .bool p.opq, .string p.text, .slice pa pn pc, .bool p.hasQ, .bool p.hasF, .string p.query, .string p.frag] 41)).heap.size = w1.heap.size + 1 := by simp
  obtain ⟨W1, hW1⟩ : ∃ W, W = w1.alloc (.cells #[.string p.sch, .string p.user, .string p.pass, .string p.host, .bool p.hasHost, .int .i64 p.port, .bool p.opq, .string p.text, .slice pa pn pc, .bool p.hasQ, .bool p.hasF, .string p.query, .string p.frag] 41) := ⟨_, rfl⟩
  rw [← hW1] at hu1 hB1 hsz1
  have HW1 : Hid (w1.alloc (.cells #[.string p.sch, .string p.user, .string p.pass, .string p.host, .bool p.hasHost, .int .i64 p.port, .bool p.opq, .string p.text, .slice pa pn pc, .bool p.hasQ, .bool p.hasF, .string p.query, .string p.frag] 41) = W1) := Lib.hid hW1.symm
  have hS1 := HS0.out.later hB1
  have hlo : w.heap.size < W1.heap.size := by have := (Array.getElem?_eq_some_iff.1 HO0.out).1; have := hB1.size; omega
  have hlu : w1.heap.size < W1.heap.size := by omega
  have hls := hS1.lt
  have HS1 := Lib.hid hS1
  have KP : Hid (∀ W, Below W1.heap.size W1 W → W.cell? ⟨s, 1, none⟩ = some (.pointer (some ⟨sb, 0, none⟩)) ∧ W.cell? ⟨w1.heap.size, 0, none⟩ = some (.string p.sch) ∧ W.cell? ⟨w1.heap.size, 1, none⟩ = some (.string p.user) ∧ W.cell? ⟨w1.heap.size, 2, none⟩ = some (.string p.pass) ∧ W.cell? ⟨w1.heap.size, 3, none⟩ = some (.string p.host) ∧ W.cell? ⟨w1.heap.size, 4, none⟩ = some (.bool p.hasHost) ∧ W.cell? ⟨w1.heap.size, 5, none⟩ = some (.int .i64 p.port) ∧ W.cell? ⟨w1.heap.size, 6, none⟩ = some (.bool p.opq) ∧ W.cell? ⟨w1.heap.size, 7, none⟩ = some (.string p.text) ∧ W.cell? ⟨w1.heap.size, 8, none⟩ = some (.slice pa pn pc) ∧ W.cell? ⟨w1.heap.size, 9, none⟩ = some (.bool p.hasQ) ∧ W.cell? ⟨w1.heap.size, 10, none⟩ = some (.bool p.hasF) ∧ W.cell? ⟨w1.heap.size, 11, none⟩ = some (.string p.query) ∧ W.cell? ⟨w1.heap.size, 12, none⟩ = some (.string p.frag) ∧ W.cell? ⟨w.heap.size, 0, none⟩ = some (.string ⟨#[]⟩) ∧ W.cell? ⟨w.heap.size, 1, none⟩ = some (.string oh) ∧ W.cell? ⟨w.heap.size, 2, none⟩ = some (.int .i64 op) ∧ W.cell? ⟨w.heap.size, 3, none⟩ = some (.int .i64 on)) := Lib.hid fun W hk => by
    have h := (hk.block _ hlo).trans ((hB1.block _ (Array.getElem?_eq_some_iff.1 HO0.out).1).trans HO0.out)
    have h' := (hk.block _ hlu).trans hu1
    have h2 := (hk.block _ hls).trans HS1.out.2
    exact ⟨Lib.cell_of_heap h2 1, Lib.cell_of_heap h' 0, Lib.cell_of_heap h' 1, Lib.cell_of_heap h' 2, Lib.cell_of_heap h' 3, Lib.cell_of_heap h' 4, Lib.cell_of_heap h' 5, Lib.cell_of_heap h' 6, Lib.cell_of_heap h' 7, Lib.cell_of_heap h' 8, Lib.cell_of_heap h' 9, Lib.cell_of_heap h' 10, Lib.cell_of_heap h' 11, Lib.cell_of_heap h' 12, Lib.cell_of_heap h 0, Lib.cell_of_heap h 1, Lib.cell_of_heap h 2, Lib.cell_of_heap h 3⟩
  have HBB := Lib.hid (HB0.out.trans (hB1.mono HB0.out.size))
  have hrv := srev_no B sb ss room p.sch p.user p.pass p.host p.hasHost p.port p.opq p.text pa pn pc p.hasQ p.hasF p.query p.frag url oh op on W1.drew ((HSt0.out.later hB1).later ((Below.refl _ _).drew)) hall hneg (fun W _ => hbr W)
  unfold oriV at hrv
  clear hal hu1 hB1 hsz1 hW1 hS1 hbare hP0 hb1 hbr hneg hall
  obtain ⟨q0, q1, q2, q3, q4, q5, q6, q7, q8, q9, q10, q11, q12, q13, q14, q15, q16, q17⟩ := KP.out W1 (Below.refl _ _)
  go_wp2_with (rw [HW1.out])
  go_region_held3 (fun W => W.cell? ⟨s, 1, none⟩ = some (.pointer (some ⟨sb, 0, none⟩)) ∧ W.cell? ⟨w1.heap.size, 0, none⟩ = some (.string p.sch) ∧ W.cell? ⟨w1.heap.size, 1, none⟩ = some (.string p.user) ∧ W.cell? ⟨w1.heap.size, 2, none⟩ = some (.string p.pass) ∧ W.cell? ⟨w1.heap.size, 3, none⟩ = some (.string p.host) ∧ W.cell? ⟨w1.heap.size, 4, none⟩ = some (.bool p.hasHost) ∧ W.cell? ⟨w1.heap.size, 5, none⟩ = some (.int .i64 p.port) ∧ W.cell? ⟨w1.heap.size, 6, none⟩ = some (.bool p.opq) ∧ W.cell? ⟨w1.heap.size, 7, none⟩ = some (.string p.text) ∧ W.cell? ⟨w1.heap.size, 8, none⟩ = some (.slice pa pn pc) ∧ W.cell? ⟨w1.heap.size, 9, none⟩ = some (.bool p.hasQ) ∧ W.cell? ⟨w1.heap.size, 10, none⟩ = some (.bool p.hasF) ∧ W.cell? ⟨w1.heap.size, 11, none⟩ = some (.string p.query) ∧ W.cell? ⟨w1.heap.size, 12, none⟩ = some (.string p.frag) ∧ W.cell? ⟨w.heap.size, 0, none⟩ = some (.string ⟨#[]⟩) ∧ W.cell? ⟨w.heap.size, 1, none⟩ = some (.string oh) ∧ W.cell? ⟨w.heap.size, 2, none⟩ = some (.int .i64 op) ∧ W.cell? ⟨w.heap.size, 3, none⟩ = some (.int .i64 on)) (first | go_keep | (exact KP.out _ (un_drew hb3)))
    (first | (go_at_call 36; refine hrv.mono ?_; rintro e w3 ⟨rfl, hb3⟩))
  have HB3 := Lib.hid (HBB.out.trans ((un_drew hb3).mono HBB.out.size))
  clear hb3 hrv KP HW1 HW
  go_wp2_with fail
  go_ret
  exact ⟨rfl, HB3.out⟩

set_option maxRecDepth 100000 in
set_option maxHeartbeats 2000000 in
theorem sblob_c (B s tb sb mb : Nat) (most room : Int) (ss : List SEnt) (sch user pass host : ByteArray) (hasHost : Bool) (port : Int) (opq : Bool) (text : ByteArray) (pa : Option Addr) (pn pc : Nat) (hasQ hasF : Bool) (query frag : ByteArray) (url oh : ByteArray) (op on : Int) (w : World)
    (hS : StackAt w B s tb sb mb most) (hSt : StoreAt w B sb ss room) (hall : ∀ e ∈ ss, e.sch = ⟨#[]⟩)
    (hbare : ∀ W, Calls Tryz.prog 37 #[.agg #[.string sch, .string user, .string pass, .string host, .bool hasHost, .int .i64 port, .bool opq, .string text, .slice pa pn pc, .bool hasQ, .bool hasF, .string query, .string frag]] W fun e w' => e = .returned (.string url) ∧ Below W.heap.size W w') :
    Calls Tryz.prog 13 #[.pointer (some ⟨s, 0, none⟩), .agg #[.string sch, .string user, .string pass, .string host, .bool hasHost, .int .i64 port, .bool opq, .string text, .slice pa pn pc, .bool hasQ, .bool hasF, .string query, .string frag], .agg (oriV ⟨#[]⟩ oh op on)] w fun e w' => e = .returned (.tuple #[optPtr (findS ss url on), .bool (findS ss url on).isSome]) ∧ Below w.heap.size w w' := by
  have hs1 : (w.alloc (.cells #[.string sch, .string user, .string pass, .string host, .bool hasHost, .int .i64 port, .bool opq, .string text, .slice pa pn pc, .bool hasQ, .bool hasF, .string query, .string frag] 41)).heap.size = w.heap.size + 1 := by simp
  have hb0 : Below w.heap.size w ((w.alloc (.cells #[.string sch, .string user, .string pass, .string host, .bool hasHost, .int .i64 port, .bool opq, .string text, .slice pa pn pc, .bool hasQ, .bool hasF, .string query, .string frag] 41)).alloc (.cells (oriV ⟨#[]⟩ oh op on) 23)) := ((Below.refl _ _).alloc (Nat.le_refl _) _).alloc (by rw [hs1]; omega) _
  have hr : ((w.alloc (.cells #[.string sch, .string user, .string pass, .string host, .bool hasHost, .int .i64 port, .bool opq, .string text, .slice pa pn pc, .bool hasQ, .bool hasF, .string query, .string frag] 41)).alloc (.cells (oriV ⟨#[]⟩ oh op on) 23)).heap[w.heap.size]? = some (.cells #[.string sch, .string user, .string pass, .string host, .bool hasHost, .int .i64 port, .bool opq, .string text, .slice pa pn pc, .bool hasQ, .bool hasF, .string query, .string frag] 41 (0, 0)) := by
    rw [Below.heap_alloc _ _ _ (by rw [hs1]; omega)]
    exact heap_last _ _
  have hr' : ((w.alloc (.cells #[.string sch, .string user, .string pass, .string host, .bool hasHost, .int .i64 port, .bool opq, .string text, .slice pa pn pc, .bool hasQ, .bool hasF, .string query, .string frag] 41)).alloc (.cells (oriV ⟨#[]⟩ oh op on) 23)).heap[w.heap.size + 1]? = some (.cells (oriV ⟨#[]⟩ oh op on) 23 (0, 0)) := by
    have := heap_last (w.alloc (.cells #[.string sch, .string user, .string pass, .string host, .bool hasHost, .int .i64 port, .bool opq, .string text, .slice pa pn pc, .bool hasQ, .bool hasF, .string query, .string frag] 41)) (.cells (oriV ⟨#[]⟩ oh op on) 23)
    rw [hs1] at this
    exact this
  have hS1 := hS.later hb0
  have hSt1 := hSt.later hb0
  obtain ⟨W0, hW0⟩ : ∃ W, W = ((w.alloc (.cells #[.string sch, .string user, .string pass, .string host, .bool hasHost, .int .i64 port, .bool opq, .string text, .slice pa pn pc, .bool hasQ, .bool hasF, .string query, .string frag] 41)).alloc (.cells (oriV ⟨#[]⟩ oh op on) 23)) := ⟨_, rfl⟩
  rw [← hW0] at hr hb0 hr' hS1 hSt1
  unfold oriV at hW0 hr' ⊢
  have HW : Hid (((w.alloc (.cells #[.string sch, .string user, .string pass, .string host, .bool hasHost, .int .i64 port, .bool opq, .string text, .slice pa pn pc, .bool hasQ, .bool hasF, .string query, .string frag] 41)).alloc (.cells #[.string ⟨#[]⟩, .string oh, .int .i64 op, .int .i64 on] 23)) = W0) := Lib.hid hW0.symm
  have HS1 := Lib.hid hS1
  have hlu := (Array.getElem?_eq_some_iff.1 hr).1
  have hlo := (Array.getElem?_eq_some_iff.1 hr').1
  have hls := hS1.lt
  have KP : Hid (∀ W, Below W0.heap.size W0 W → W.cell? ⟨s, 1, none⟩ = some (.pointer (some ⟨sb, 0, none⟩)) ∧ W.cell? ⟨w.heap.size, 0, none⟩ = some (.string sch) ∧ W.cell? ⟨w.heap.size, 1, none⟩ = some (.string user) ∧ W.cell? ⟨w.heap.size, 2, none⟩ = some (.string pass) ∧ W.cell? ⟨w.heap.size, 3, none⟩ = some (.string host) ∧ W.cell? ⟨w.heap.size, 4, none⟩ = some (.bool hasHost) ∧ W.cell? ⟨w.heap.size, 5, none⟩ = some (.int .i64 port) ∧ W.cell? ⟨w.heap.size, 6, none⟩ = some (.bool opq) ∧ W.cell? ⟨w.heap.size, 7, none⟩ = some (.string text) ∧ W.cell? ⟨w.heap.size, 8, none⟩ = some (.slice pa pn pc) ∧ W.cell? ⟨w.heap.size, 9, none⟩ = some (.bool hasQ) ∧ W.cell? ⟨w.heap.size, 10, none⟩ = some (.bool hasF) ∧ W.cell? ⟨w.heap.size, 11, none⟩ = some (.string query) ∧ W.cell? ⟨w.heap.size, 12, none⟩ = some (.string frag) ∧ W.cell? ⟨w.heap.size + 1, 0, none⟩ = some (.string ⟨#[]⟩) ∧ W.cell? ⟨w.heap.size + 1, 1, none⟩ = some (.string oh) ∧ W.cell? ⟨w.heap.size + 1, 2, none⟩ = some (.int .i64 op) ∧ W.cell? ⟨w.heap.size + 1, 3, none⟩ = some (.int .i64 on)) := Lib.hid fun W hk => by
    have h := (hk.block _ hlo).trans hr'
    have h' := (hk.block _ hlu).trans hr
    have h2 := (hk.block _ hls).trans HS1.out.2
    exact ⟨Lib.cell_of_heap h2 1, Lib.cell_of_heap h' 0, Lib.cell_of_heap h' 1, Lib.cell_of_heap h' 2, Lib.cell_of_heap h' 3, Lib.cell_of_heap h' 4, Lib.cell_of_heap h' 5, Lib.cell_of_heap h' 6, Lib.cell_of_heap h' 7, Lib.cell_of_heap h' 8, Lib.cell_of_heap h' 9, Lib.cell_of_heap h' 10, Lib.cell_of_heap h' 11, Lib.cell_of_heap h' 12, Lib.cell_of_heap h 0, Lib.cell_of_heap h 1, Lib.cell_of_heap h 2, Lib.cell_of_heap h 3⟩
  have hfn := fnd_c B sb ss room sch user pass host hasHost port opq text pa pn pc hasQ hasF query frag url oh op on W0.drew (hSt1.later ((Below.refl _ _).drew)) hall (fun W _ => hbare W)
  unfold oriV at hfn
  obtain ⟨bp, hbp⟩ : ∃ bp, optPtr (findS ss url on) = .pointer bp := by
    unfold optPtr; exact ⟨_, rfl⟩
  rw [hbp] at hfn ⊢
  generalize (findS ss url on).isSome = bo at *
  have HB0 := Lib.hid hb0
  clear hW0 hs1 hS hSt hall hbare hb0 hr hr' hS1 hSt1 hbp
  obtain ⟨q0, q1, q2, q3, q4, q5, q6, q7, q8, q9, q10, q11, q12, q13, q14, q15, q16, q17⟩ := KP.out W0 (Below.refl _ _)
  go_enter Tryz.func13, Tryz.ntmps13
  go_wp2_with (rw [HW.out])
  go_region_held3 (fun W => W.cell? ⟨s, 1, none⟩ = some (.pointer (some ⟨sb, 0, none⟩)) ∧ W.cell? ⟨w.heap.size, 0, none⟩ = some (.string sch) ∧ W.cell? ⟨w.heap.size, 1, none⟩ = some (.string user) ∧ W.cell? ⟨w.heap.size, 2, none⟩ = some (.string pass) ∧ W.cell? ⟨w.heap.size, 3, none⟩ = some (.string host) ∧ W.cell? ⟨w.heap.size, 4, none⟩ = some (.bool hasHost) ∧ W.cell? ⟨w.heap.size, 5, none⟩ = some (.int .i64 port) ∧ W.cell? ⟨w.heap.size, 6, none⟩ = some (.bool opq) ∧ W.cell? ⟨w.heap.size, 7, none⟩ = some (.string text) ∧ W.cell? ⟨w.heap.size, 8, none⟩ = some (.slice pa pn pc) ∧ W.cell? ⟨w.heap.size, 9, none⟩ = some (.bool hasQ) ∧ W.cell? ⟨w.heap.size, 10, none⟩ = some (.bool hasF) ∧ W.cell? ⟨w.heap.size, 11, none⟩ = some (.string query) ∧ W.cell? ⟨w.heap.size, 12, none⟩ = some (.string frag) ∧ W.cell? ⟨w.heap.size + 1, 0, none⟩ = some (.string ⟨#[]⟩) ∧ W.cell? ⟨w.heap.size + 1, 1, none⟩ = some (.string oh) ∧ W.cell? ⟨w.heap.size + 1, 2, none⟩ = some (.int .i64 op) ∧ W.cell? ⟨w.heap.size + 1, 3, none⟩ = some (.int .i64 on)) (first | go_keep | (exact KP.out _ (un_drew hb3)))
    (first | (go_at_call 34; refine hfn.mono ?_; rintro e w3 ⟨rfl, hb3⟩))
  have HB3 := Lib.hid (HB0.out.trans ((un_drew hb3).mono HB0.out.size))
  clear hb3 hfn KP HW
  go_wp2_with fail
  go_ret2
  exact ⟨rfl, HB3.out⟩

set_option maxRecDepth 100000 in
theorem stourls_none (B sb : Nat) (room : Int) (w : World) (hSt : StoreAt w B sb [] room) :
    Calls Tryz.prog 40 #[.pointer (some ⟨sb, 0, none⟩)] w fun e w' => e = .returned (.slice none 0 0) ∧ Below w.heap.size w w' := by
  obtain ⟨_, _, lv, hv, ho⟩ := hSt
  obtain ⟨a, cap, hlv⟩ : ∃ a cap, lv = .slice a 0 cap := by
    rcases ho.2 with ⟨hlv, h0⟩ | ⟨g, cap, cur, hlv, _⟩
    · exact ⟨none, 0, hlv⟩
    · exact ⟨_, cap, hlv⟩
  subst hlv
  have c0 : w.cell? ⟨sb, 0, none⟩ = some (.slice a 0 cap) := Lib.cell_of_heap hv 0
  clear ho hv
  go_enter Tryz.func40, Tryz.ntmps40
  go_wp2
  refine wp_loop_rounds 1 ?_
  rw [rounds_succ]
  go_wp2
  go_ret
  exact ⟨rfl, Below.refl _ _⟩
set_option maxRecDepth 100000 in
theorem surls_none (B s tb sb mb : Nat) (most room : Int) (w : World) (hS : StackAt w B s tb sb mb most) (hSt : StoreAt w B sb [] room) :
    Calls Tryz.prog 17 #[.pointer (some ⟨s, 0, none⟩)] w fun e w' => e = .returned (.slice none 0 0) ∧ Below w.heap.size w w' := by
  have c1 : w.cell? ⟨s, 1, none⟩ = some (.pointer (some ⟨sb, 0, none⟩)) := Lib.cell_of_heap hS.2 1
  have hu := stourls_none B sb room w hSt
  clear hS hSt
  go_enter Tryz.func17, Tryz.ntmps17
  go_wp2_with fail
  refine hu.mono ?_
  rintro e w1 ⟨rfl, hb1⟩
  go_wp2_with fail
  go_ret
  exact ⟨rfl, hb1⟩
end Go.Proofs.YtibgiohijknmbaaGreatDoor
