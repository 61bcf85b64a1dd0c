/-
  Joined texts: SRv2, SRv3, FBy, Fetch3, SFe2, GoeF.
-/
import Derived.Test.YtibgiohijknmbaaGreatDoorM10
import Derived.Test.YtibgiohijknmbaaGreatDoorM7
import Derived.Test.YtibgiohijknmbaaGreatDoorM6
import Derived.Test.YtibgiohijknmbaaGreatDoorM8
/-
  (*Stack).Revoke of the only entry, and of none.
-/
namespace Go.Proofs.YtibgiohijknmbaaGreatDoor
open Go.RowKit Go.Conc
set_option linter.unusedVariables false
set_option linter.unusedSimpArgs false

def minusOf (x : ByteArray) : ByteArray := ⟨#[45]⟩ ++ x
def SRevokeOk (B sb mb room : Nat) (us ps : List ByteArray) (x : ByteArray) (w : World) (e : Ending) (w' : World) : Prop :=
  e = .returned (.bool true) ∧ StoreAt w' B sb [] room ∧ MailAt w' B mb room (us ++ [minusOf x]) ps ∧ Below B w w' ∧ TyKept stoTs w w'
set_option maxRecDepth 100000 in
set_option maxHeartbeats 4000000 in
theorem srevoke_c (B s tb sb mb : Nat) (most : Int) (room : Nat) (us ps : List ByteArray) (en : SEnt) (name : ByteArray) (p : PSt) (oh : ByteArray) (op on : Int) (w : World)
    (hS : StackAt w B s tb sb mb most) (hSt : StoreAt w B sb [en] room) (hM : MailAt w B mb room us ps) (hus : us.length < room) (hsch : en.sch = ⟨#[]⟩) (hon : en.nonce = on) (hz : en.url.size ≤ 1073741824)
    (hP : ∀ W, Below w.heap.size w W → Calls Tryz.prog 26 #[.string name, .pointer none] W (ParseIs W p))
    (hbare : ∀ pa pn pc W, Calls Tryz.prog 37 #[.agg (PSt.url { p with path := .slice pa pn pc })] W fun e w' => e = .returned (.string en.url) ∧ Below W.heap.size W w') :
    Calls Tryz.prog 15 #[.pointer (some ⟨s, 0, none⟩), .string name, .agg (oriV ⟨#[]⟩ oh op on)] w (SRevokeOk B sb mb room us ps en.url w) := by
  have hBw : B ≤ w.heap.size := Nat.le_trans hS.1 (Nat.le_of_lt hS.lt)
  have hb0 : Below w.heap.size w (w.alloc (.cells (oriV ⟨#[]⟩ oh op on) 23)) := (Below.refl _ _).alloc (Nat.le_refl _) _
  have ho0 : (w.alloc (.cells (oriV ⟨#[]⟩ oh op on) 23)).heap[w.heap.size]? = some (.cells (oriV ⟨#[]⟩ oh op on) 23 (0, 0)) := heap_last _ _
  have hP0 := hP _ hb0
  have HS0 := Lib.hid (hS.later hb0)
  have HSt0 := Lib.hid (hSt.later hb0)
  have HM0 := Lib.hid (hM.later hb0)
  obtain ⟨W0, hW0⟩ : ∃ W, W = w.alloc (.cells (oriV ⟨#[]⟩ oh op on) 23) := ⟨_, rfl⟩
  rw [← hW0] at hb0 ho0 hP0 HS0 HSt0 HM0
  unfold oriV at hW0 ho0 ⊢
  have HW : Hid (w.alloc (.cells #[.string ⟨#[]⟩, .string oh, .int .i64 op, .int .i64 on] 23) = W0) := Lib.hid hW0.symm
  have HB0 := Lib.hid hb0
  have HO0 := Lib.hid ho0
  clear hW0 ho0 hb0 hS hSt hM hP
  go_enter Tryz.func15, Tryz.ntmps15
  go_wp2_with (rw [HW.out])
  refine hP0.mono ?_
  rintro e w1 ⟨pa, pn, pc, rfl, hb1⟩
  have hbr := fun W => hbare pa pn pc W
  unfold PSt.url at hbr ⊢
  simp only at hbr ⊢
  have hal : Below w1.heap.size w1 (w1.alloc (.cells #[.string p.sch, .string p.user, .string p.pass, .string p.host, .bool p.hasHost, .int .i64 p.port, .bool p.opq, .string p.text, .slice pa pn pc, .bool p.hasQ, .bool p.hasF, .string p.query, .string p.frag] 41)) := (Below.refl _ _).alloc (Nat.le_refl _) _
  have hu1 : (w1.alloc (.cells #[.string p.sch, .string p.user, .string p.pass, .string p.host, .bool p.hasHost, .int .i64 p.port, .bool p.opq, .string p.text, .slice pa pn pc, .bool p.hasQ, .bool p.hasF, .string p.query, .string p.frag] 41)).heap[w1.heap.size]? = some (.cells #[.string p.sch, .string p.user, .string p.pass, .string p.host, .bool p.hasHost, .int .i64 p.port, .bool p.opq, .string p.text, .slice pa pn pc, .bool p.hasQ, .bool p.hasF, .string p.query, .string p.frag] 41 (0, 0)) := heap_last _ _
  have hB1 : Below W0.heap.size W0 (w1.alloc (.cells #[.string p.sch, .string p.user, .string p.pass, .string p.host, .bool p.hasHost, .int .i64 p.port, .bool p.opq, .string p.text, .slice pa pn pc, .bool p.hasQ, .bool p.hasF, .string p.query, .string p.frag] 41)) := hb1.trans (hal.mono hb1.size)
  have hsz1 : (w1.alloc (.cells #[.string p.sch, .string p.user, .string p.pass, .string p.host, .bool p.hasHost, .int .i64 p.port, .bool p.opq, .string p.text, .slice pa pn pc, .bool p.hasQ, .bool p.hasF, .string p.query, .string p.frag] 41)).heap.size = w1.heap.size + 1 := by simp
  obtain ⟨W1, hW1⟩ : ∃ W, W = w1.alloc (.cells #[.string p.sch, .string p.user, .string p.pass, .string p.host, .bool p.hasHost, .int .i64 p.port, .bool p.opq, .string p.text, .slice pa pn pc, .bool p.hasQ, .bool p.hasF, .string p.query, .string p.frag] 41) := ⟨_, rfl⟩
  rw [← hW1] at hu1 hB1 hsz1
  have HW1 : Hid (w1.alloc (.cells #[.string p.sch, .string p.user, .string p.pass, .string p.host, .bool p.hasHost, .int .i64 p.port, .bool p.opq, .string p.text, .slice pa pn pc, .bool p.hasQ, .bool p.hasF, .string p.query, .string p.frag] 41) = W1) := Lib.hid hW1.symm
  have hS1 := HS0.out.later hB1
  have hlo : w.heap.size < W1.heap.size := by have := (Array.getElem?_eq_some_iff.1 HO0.out).1; have := hB1.size; omega
  have hlu : w1.heap.size < W1.heap.size := by omega
  have hls := hS1.lt
  have HS1 := Lib.hid hS1
  have HSt1 := Lib.hid (HSt0.out.later hB1)
  have HM1 := Lib.hid (HM0.out.later hB1)
  have KP : Hid (∀ W, TyKept stoTs W1 W → W.cell? ⟨s, 1, none⟩ = some (.pointer (some ⟨sb, 0, none⟩)) ∧ W.cell? ⟨w1.heap.size, 0, none⟩ = some (.string p.sch) ∧ W.cell? ⟨w1.heap.size, 1, none⟩ = some (.string p.user) ∧ W.cell? ⟨w1.heap.size, 2, none⟩ = some (.string p.pass) ∧ W.cell? ⟨w1.heap.size, 3, none⟩ = some (.string p.host) ∧ W.cell? ⟨w1.heap.size, 4, none⟩ = some (.bool p.hasHost) ∧ W.cell? ⟨w1.heap.size, 5, none⟩ = some (.int .i64 p.port) ∧ W.cell? ⟨w1.heap.size, 6, none⟩ = some (.bool p.opq) ∧ W.cell? ⟨w1.heap.size, 7, none⟩ = some (.string p.text) ∧ W.cell? ⟨w1.heap.size, 8, none⟩ = some (.slice pa pn pc) ∧ W.cell? ⟨w1.heap.size, 9, none⟩ = some (.bool p.hasQ) ∧ W.cell? ⟨w1.heap.size, 10, none⟩ = some (.bool p.hasF) ∧ W.cell? ⟨w1.heap.size, 11, none⟩ = some (.string p.query) ∧ W.cell? ⟨w1.heap.size, 12, none⟩ = some (.string p.frag) ∧ W.cell? ⟨w.heap.size, 0, none⟩ = some (.string ⟨#[]⟩) ∧ W.cell? ⟨w.heap.size, 1, none⟩ = some (.string oh) ∧ W.cell? ⟨w.heap.size, 2, none⟩ = some (.int .i64 op) ∧ W.cell? ⟨w.heap.size, 3, none⟩ = some (.int .i64 on)) := Lib.hid fun W hk => by
    have h := (hk _ _ _ _ ((hB1.block _ (Array.getElem?_eq_some_iff.1 HO0.out).1).trans HO0.out) (by decide)).trans ((hB1.block _ (Array.getElem?_eq_some_iff.1 HO0.out).1).trans HO0.out)
    have h' := (hk _ _ _ _ hu1 (by decide)).trans hu1
    have h2 := (hk _ _ _ _ HS1.out.2 (by decide)).trans HS1.out.2
    exact ⟨Lib.cell_of_heap h2 1, Lib.cell_of_heap h' 0, Lib.cell_of_heap h' 1, Lib.cell_of_heap h' 2, Lib.cell_of_heap h' 3, Lib.cell_of_heap h' 4, Lib.cell_of_heap h' 5, Lib.cell_of_heap h' 6, Lib.cell_of_heap h' 7, Lib.cell_of_heap h' 8, Lib.cell_of_heap h' 9, Lib.cell_of_heap h' 10, Lib.cell_of_heap h' 11, Lib.cell_of_heap h' 12, Lib.cell_of_heap h 0, Lib.cell_of_heap h 1, Lib.cell_of_heap h 2, Lib.cell_of_heap h 3⟩
  have KP2 : Hid (∀ W, TyKept stoTs W1 W → W.cell? ⟨s, 2, none⟩ = some (.pointer (some ⟨mb, 0, none⟩)) ∧ W.cell? ⟨w1.heap.size, 0, none⟩ = some (.string p.sch) ∧ W.cell? ⟨w1.heap.size, 1, none⟩ = some (.string p.user) ∧ W.cell? ⟨w1.heap.size, 2, none⟩ = some (.string p.pass) ∧ W.cell? ⟨w1.heap.size, 3, none⟩ = some (.string p.host) ∧ W.cell? ⟨w1.heap.size, 4, none⟩ = some (.bool p.hasHost) ∧ W.cell? ⟨w1.heap.size, 5, none⟩ = some (.int .i64 p.port) ∧ W.cell? ⟨w1.heap.size, 6, none⟩ = some (.bool p.opq) ∧ W.cell? ⟨w1.heap.size, 7, none⟩ = some (.string p.text) ∧ W.cell? ⟨w1.heap.size, 8, none⟩ = some (.slice pa pn pc) ∧ W.cell? ⟨w1.heap.size, 9, none⟩ = some (.bool p.hasQ) ∧ W.cell? ⟨w1.heap.size, 10, none⟩ = some (.bool p.hasF) ∧ W.cell? ⟨w1.heap.size, 11, none⟩ = some (.string p.query) ∧ W.cell? ⟨w1.heap.size, 12, none⟩ = some (.string p.frag) ∧ W.cell? ⟨w.heap.size, 0, none⟩ = some (.string ⟨#[]⟩) ∧ W.cell? ⟨w.heap.size, 1, none⟩ = some (.string oh) ∧ W.cell? ⟨w.heap.size, 2, none⟩ = some (.int .i64 op) ∧ W.cell? ⟨w.heap.size, 3, none⟩ = some (.int .i64 on)) := Lib.hid fun W hk => by
    have h := KP.out W hk
    have h2 := (hk _ _ _ _ HS1.out.2 (by decide)).trans HS1.out.2
    exact ⟨Lib.cell_of_heap h2 2, h.2⟩
  have HK1 : Hid (Below B w W1 ∧ TyKept stoTs w W1) := Lib.hid ⟨(HB0.out.trans (hB1.mono HB0.out.size)).mono hBw, ty_below (HB0.out.trans (hB1.mono HB0.out.size)) _⟩
  have hBW1 : B ≤ W1.heap.size := by have := HB0.out.size; have := hB1.size; omega
  have hrv := srev_c B sb en room p.sch p.user p.pass p.host p.hasHost p.port p.opq p.text pa pn pc p.hasQ p.hasF p.query p.frag oh op on W1.drew hBW1 (HSt1.out.later ((Below.refl _ _).drew)) hsch hon (fun W _ => hbr W)
  unfold oriV at hrv
  have HBR := Lib.hid hbr
  clear hal hu1 hB1 hsz1 hW1 hS1 hbare hP0 hb1 hbr
  obtain ⟨r0, r1, r2, r3, r4, r5, r6, r7, r8, r9, r10, r11, r12, r13, r14, r15, r16, r17⟩ := KP.out W1 (ty_below (Below.refl _ _) _)
  go_wp2_with (rw [HW1.out])
  go_region_held3 (fun W => W.cell? ⟨s, 1, none⟩ = some (.pointer (some ⟨sb, 0, none⟩)) ∧ W.cell? ⟨w1.heap.size, 0, none⟩ = some (.string p.sch) ∧ W.cell? ⟨w1.heap.size, 1, none⟩ = some (.string p.user) ∧ W.cell? ⟨w1.heap.size, 2, none⟩ = some (.string p.pass) ∧ W.cell? ⟨w1.heap.size, 3, none⟩ = some (.string p.host) ∧ W.cell? ⟨w1.heap.size, 4, none⟩ = some (.bool p.hasHost) ∧ W.cell? ⟨w1.heap.size, 5, none⟩ = some (.int .i64 p.port) ∧ W.cell? ⟨w1.heap.size, 6, none⟩ = some (.bool p.opq) ∧ W.cell? ⟨w1.heap.size, 7, none⟩ = some (.string p.text) ∧ W.cell? ⟨w1.heap.size, 8, none⟩ = some (.slice pa pn pc) ∧ W.cell? ⟨w1.heap.size, 9, none⟩ = some (.bool p.hasQ) ∧ W.cell? ⟨w1.heap.size, 10, none⟩ = some (.bool p.hasF) ∧ W.cell? ⟨w1.heap.size, 11, none⟩ = some (.string p.query) ∧ W.cell? ⟨w1.heap.size, 12, none⟩ = some (.string p.frag) ∧ W.cell? ⟨w.heap.size, 0, none⟩ = some (.string ⟨#[]⟩) ∧ W.cell? ⟨w.heap.size, 1, none⟩ = some (.string oh) ∧ W.cell? ⟨w.heap.size, 2, none⟩ = some (.int .i64 op) ∧ W.cell? ⟨w.heap.size, 3, none⟩ = some (.int .i64 on)) (first | go_keep | (exact KP.out _ hk3))
    (first | (go_at_call 36; refine hrv.mono ?_; rintro e w3 ⟨rfl, hst3, hb3, hk3, hch3⟩; replace hk3 : TyKept stoTs W1 w3 := hk3))
  rename_i _ _ hHeld
  have HK3 := Lib.hid hk3
  have hch3' : ChKept W1 w3 := hch3
  have hM3 := Lib.hid (HM1.out.ty hk3 hch3' (by decide))
  have HF3 : Hid (Below B w w3) := HK1.out.1.trans (((Below.refl _ _).drew).trans hb3)
  have HST3 := Lib.hid hst3
  obtain ⟨q0, q1, q2, q3, q4, q5, q6, q7, q8, q9, q10, q11, q12, q13, q14, q15, q16, q17⟩ := KP2.out w3 HK3.out
  have hmp : Hid (∀ (W : World), Below w3.heap.size w3 W → Calls Tryz.prog 32 #[.pointer (some ⟨mb, 0, none⟩), .string (minusOf en.url), .bool true] W (MPutOk B mb room (us ++ [minusOf en.url]) ps W)) := Lib.hid fun W h => mput_urgent B mb room us ps (minusOf en.url) W (hM3.out.later h) hus
  have e1 : ∀ W, (Op.stringOp .add ⟨#[45]⟩ en.url).run Tryz.prog W = .ok (.string (minusOf en.url)) W := fun W => run_string_add_sum W ⟨#[45]⟩ en.url (by show 1 + en.url.size ≤ _; omega)
  have hlo3 : w.heap.size < w3.heap.size := by have := hb3.size; simp at this; omega
  have hlu3 : w1.heap.size < w3.heap.size := by have := hb3.size; simp at this; omega
  have hls3 : s < w3.heap.size := by have := hb3.size; simp at this; omega
  clear hrv hst3 hk3 hch3 hch3' hb3 HW1 hlo hlu hls HW KP r0 r1 r2 r3 r4 r5 r6 r7 r8 r9 r10 r11 r12 r13 r14 r15 r16 r17 HSt0 HS0 HM0 HO0 hHeld
  go_wp2_with fail
  go_region_held3 (fun W => W.cell? ⟨s, 2, none⟩ = some (.pointer (some ⟨mb, 0, none⟩)) ∧ W.cell? ⟨w1.heap.size, 0, none⟩ = some (.string p.sch) ∧ W.cell? ⟨w1.heap.size, 1, none⟩ = some (.string p.user) ∧ W.cell? ⟨w1.heap.size, 2, none⟩ = some (.string p.pass) ∧ W.cell? ⟨w1.heap.size, 3, none⟩ = some (.string p.host) ∧ W.cell? ⟨w1.heap.size, 4, none⟩ = some (.bool p.hasHost) ∧ W.cell? ⟨w1.heap.size, 5, none⟩ = some (.int .i64 p.port) ∧ W.cell? ⟨w1.heap.size, 6, none⟩ = some (.bool p.opq) ∧ W.cell? ⟨w1.heap.size, 7, none⟩ = some (.string p.text) ∧ W.cell? ⟨w1.heap.size, 8, none⟩ = some (.slice pa pn pc) ∧ W.cell? ⟨w1.heap.size, 9, none⟩ = some (.bool p.hasQ) ∧ W.cell? ⟨w1.heap.size, 10, none⟩ = some (.bool p.hasF) ∧ W.cell? ⟨w1.heap.size, 11, none⟩ = some (.string p.query) ∧ W.cell? ⟨w1.heap.size, 12, none⟩ = some (.string p.frag) ∧ W.cell? ⟨w.heap.size, 0, none⟩ = some (.string ⟨#[]⟩) ∧ W.cell? ⟨w.heap.size, 1, none⟩ = some (.string oh) ∧ W.cell? ⟨w.heap.size, 2, none⟩ = some (.int .i64 op) ∧ W.cell? ⟨w.heap.size, 3, none⟩ = some (.int .i64 on)) (first | (exact KP2.out _ ((HK3.out.trans (ty_below (un_drew hb4) _)).trans (hk5.more (fun t ht => absurd ht (List.not_mem_nil))))) | (exact KP2.out _ (HK3.out.trans (ty_below (un_drew hb4) _))) | go_keep)
    (first | (go_at_call 37; refine (HBR.out _).mono ?_; rintro e w4 ⟨rfl, hb4⟩) | (go_at_call 32; refine (hmp.out w4 (un_drew hb4)).mono ?_; rintro e w5 ⟨rfl, hM5, hb5, hk5⟩))
  have hb4' := un_drew hb4
  have HF : Hid (StoreAt w5 B sb [] room ∧ MailAt w5 B mb room (us ++ [minusOf en.url]) ps ∧ Below B w w5 ∧ TyKept stoTs w w5) :=
    ⟨(HST3.out.later hb4').ty hk5 (by decide) (by decide), hM5, (HF3.out.trans (hb4'.mono (by have := HF3.out.size; omega))).trans hb5, ((HK1.out.2.trans HK3.out).trans (ty_below hb4' _)).trans (hk5.more (fun t ht => absurd ht (List.not_mem_nil)))⟩
  clear hM5 hb5 hk5 hb4 hb4'
  go_wp2_with fail
  go_ret
  exact ⟨rfl, HF.out⟩
end Go.Proofs.YtibgiohijknmbaaGreatDoor

/-
  (*Stack).Revoke of none; (*Stack).Blob; Urls of none.
-/
namespace Go.Proofs.YtibgiohijknmbaaGreatDoor
open Go.RowKit Go.Conc
set_option linter.unusedVariables false
set_option linter.unusedSimpArgs false

set_option maxRecDepth 100000 in
set_option maxHeartbeats 2000000 in
theorem srevoke_no (B s tb sb mb : Nat) (most room : Int) (ss : List SEnt) (name url : ByteArray) (p : PSt) (oh : ByteArray) (op on : Int) (w : World)
    (hS : StackAt w B s tb sb mb most) (hSt : StoreAt w B sb ss room) (hall : ∀ e ∈ ss, e.sch = ⟨#[]⟩) (hneg : ownI ss url on < 0)
    (hP : ∀ W, Below w.heap.size w W → Calls Tryz.prog 26 #[.string name, .pointer none] W (ParseIs W p))
    (hbare : ∀ pa pn pc W, Calls Tryz.prog 37 #[.agg (PSt.url { p with path := .slice pa pn pc })] W fun e w' => e = .returned (.string url) ∧ Below W.heap.size W w') :
    Calls Tryz.prog 15 #[.pointer (some ⟨s, 0, none⟩), .string name, .agg (oriV ⟨#[]⟩ oh op on)] w fun e w' => e = .returned (.bool false) ∧ Below w.heap.size w w' := by
  have hb0 : Below w.heap.size w (w.alloc (.cells (oriV ⟨#[]⟩ oh op on) 23)) := (Below.refl _ _).alloc (Nat.le_refl _) _
  have ho0 : (w.alloc (.cells (oriV ⟨#[]⟩ oh op on) 23)).heap[w.heap.size]? = some (.cells (oriV ⟨#[]⟩ oh op on) 23 (0, 0)) := heap_last _ _
  have hP0 := hP _ hb0
  have HS0 := Lib.hid (hS.later hb0)
  have HSt0 := Lib.hid (hSt.later hb0)
  obtain ⟨W0, hW0⟩ : ∃ W, W = w.alloc (.cells (oriV ⟨#[]⟩ oh op on) 23) := ⟨_, rfl⟩
  rw [← hW0] at hb0 ho0 hP0 HS0 HSt0
  unfold oriV at hW0 ho0 ⊢
  have HW : Hid (w.alloc (.cells #[.string ⟨#[]⟩, .string oh, .int .i64 op, .int .i64 on] 23) = W0) := Lib.hid hW0.symm
  have HB0 := Lib.hid hb0
  have HO0 := Lib.hid ho0
  clear hW0 ho0 hb0 hS hSt hP
  go_enter Tryz.func15, Tryz.ntmps15
  go_wp2_with (rw [HW.out])
  refine hP0.mono ?_
  rintro e w1 ⟨pa, pn, pc, rfl, hb1⟩
  have hbr := fun W => hbare pa pn pc W
  unfold PSt.url at hbr ⊢
  simp only at hbr ⊢
  have hal : Below w1.heap.size w1 (w1.alloc (.cells #[.string p.sch, .string p.user, .string p.pass, .string p.host, .bool p.hasHost, .int .i64 p.port, .bool p.opq, .string p.text, .slice pa pn pc, .bool p.hasQ, .bool p.hasF, .string p.query, .string p.frag] 41)) := (Below.refl _ _).alloc (Nat.le_refl _) _
  have hu1 : (w1.alloc (.cells #[.string p.sch, .string p.user, .string p.pass, .string p.host, .bool p.hasHost, .int .i64 p.port, .bool p.opq, .string p.text, .slice pa pn pc, .bool p.hasQ, .bool p.hasF, .string p.query, .string p.frag] 41)).heap[w1.heap.size]? = some (.cells #[.string p.sch, .string p.user, .string p.pass, .string p.host, .bool p.hasHost, .int .i64 p.port, .bool p.opq, .string p.text, .slice pa pn pc, .bool p.hasQ, .bool p.hasF, .string p.query, .string p.frag] 41 (0, 0)) := heap_last _ _
  have hB1 : Below W0.heap.size W0 (w1.alloc (.cells #[.string p.sch, .string p.user, .string p.pass, .string p.host, .bool p.hasHost, .int .i64 p.port, .bool p.opq, .string p.text, .slice pa pn pc, .bool p.hasQ, .bool p.hasF, .string p.query, .string p.frag] 41)) := hb1.trans (hal.mono hb1.size)
  have hsz1 : (w1.alloc (.cells #[.string p.sch, .string p.user, .string p.pass, .string p.host, .bool p.hasHost, .int .i64 p.port, .bool p.opq, .string p.text, .slice pa pn pc, .bool p.hasQ, .bool p.hasF, .string p.query, .string p.frag] 41)).heap.size = w1.heap.size + 1 := by simp
  obtain ⟨W1, hW1⟩ : ∃ W, W = w1.alloc (.cells #[.string p.sch, .string p.user, .string p.pass, .string p.host, .bool p.hasHost, .int .i64 p.port, .bool p.opq, .string p.text, .slice pa pn pc, .bool p.hasQ, .bool p.hasF, .string p.query, .string p.frag] 41) := ⟨_, rfl⟩
  rw [← hW1] at hu1 hB1 hsz1
  have HW1 : Hid (w1.alloc (.cells #[.string p.sch, .string p.user, .string p.pass, .string p.host, .bool p.hasHost, .int .i64 p.port, .bool p.opq, .string p.text, .slice pa pn pc, .bool p.hasQ, .bool p.hasF, .string p.query, .string p.frag] 41) = W1) := Lib.hid hW1.symm
  have hS1 := HS0.out.later hB1
  have hlo : w.heap.size < W1.heap.size := by have := (Array.getElem?_eq_some_iff.1 HO0.out).1; have := hB1.size; omega
  have hlu : w1.heap.size < W1.heap.size := by omega
  have hls := hS1.lt
  have HS1 := Lib.hid hS1
  have KP : Hid (∀ W, Below W1.heap.size W1 W → W.cell? ⟨s, 1, none⟩ = some (.pointer (some ⟨sb, 0, none⟩)) ∧ W.cell? ⟨w1.heap.size, 0, none⟩ = some (.string p.sch) ∧ W.cell? ⟨w1.heap.size, 1, none⟩ = some (.string p.user) ∧ W.cell? ⟨w1.heap.size, 2, none⟩ = some (.string p.pass) ∧ W.cell? ⟨w1.heap.size, 3, none⟩ = some (.string p.host) ∧ W.cell? ⟨w1.heap.size, 4, none⟩ = some (.bool p.hasHost) ∧ W.cell? ⟨w1.heap.size, 5, none⟩ = some (.int .i64 p.port) ∧ W.cell? ⟨w1.heap.size, 6, none⟩ = some (.bool p.opq) ∧ W.cell? ⟨w1.heap.size, 7, none⟩ = some (.string p.text) ∧ W.cell? ⟨w1.heap.size, 8, none⟩ = some (.slice pa pn pc) ∧ W.cell? ⟨w1.heap.size, 9, none⟩ = some (.bool p.hasQ) ∧ W.cell? ⟨w1.heap.size, 10, none⟩ = some (.bool p.hasF) ∧ W.cell? ⟨w1.heap.size, 11, none⟩ = some (.string p.query) ∧ W.cell? ⟨w1.heap.size, 12, none⟩ = some (.string p.frag) ∧ W.cell? ⟨w.heap.size, 0, none⟩ = some (.string ⟨#[]⟩) ∧ W.cell? ⟨w.heap.size, 1, none⟩ = some (.string oh) ∧ W.cell? ⟨w.heap.size, 2, none⟩ = some (.int .i64 op) ∧ W.cell? ⟨w.heap.size, 3, none⟩ = some (.int .i64 on)) := Lib.hid fun W hk => by
    have h := (hk.block _ hlo).trans ((hB1.block _ (Array.getElem?_eq_some_iff.1 HO0.out).1).trans HO0.out)
    have h' := (hk.block _ hlu).trans hu1
    have h2 := (hk.block _ hls).trans HS1.out.2
    exact ⟨Lib.cell_of_heap h2 1, Lib.cell_of_heap h' 0, Lib.cell_of_heap h' 1, Lib.cell_of_heap h' 2, Lib.cell_of_heap h' 3, Lib.cell_of_heap h' 4, Lib.cell_of_heap h' 5, Lib.cell_of_heap h' 6, Lib.cell_of_heap h' 7, Lib.cell_of_heap h' 8, Lib.cell_of_heap h' 9, Lib.cell_of_heap h' 10, Lib.cell_of_heap h' 11, Lib.cell_of_heap h' 12, Lib.cell_of_heap h 0, Lib.cell_of_heap h 1, Lib.cell_of_heap h 2, Lib.cell_of_heap h 3⟩
  have HBB := Lib.hid (HB0.out.trans (hB1.mono HB0.out.size))
  have hrv := srev_no B sb ss room p.sch p.user p.pass p.host p.hasHost p.port p.opq p.text pa pn pc p.hasQ p.hasF p.query p.frag url oh op on W1.drew ((HSt0.out.later hB1).later ((Below.refl _ _).drew)) hall hneg (fun W _ => hbr W)
  unfold oriV at hrv
  clear hal hu1 hB1 hsz1 hW1 hS1 hbare hP0 hb1 hbr hneg hall
  obtain ⟨q0, q1, q2, q3, q4, q5, q6, q7, q8, q9, q10, q11, q12, q13, q14, q15, q16, q17⟩ := KP.out W1 (Below.refl _ _)
  go_wp2_with (rw [HW1.out])
  go_region_held3 (fun W => W.cell? ⟨s, 1, none⟩ = some (.pointer (some ⟨sb, 0, none⟩)) ∧ W.cell? ⟨w1.heap.size, 0, none⟩ = some (.string p.sch) ∧ W.cell? ⟨w1.heap.size, 1, none⟩ = some (.string p.user) ∧ W.cell? ⟨w1.heap.size, 2, none⟩ = some (.string p.pass) ∧ W.cell? ⟨w1.heap.size, 3, none⟩ = some (.string p.host) ∧ W.cell? ⟨w1.heap.size, 4, none⟩ = some (.bool p.hasHost) ∧ W.cell? ⟨w1.heap.size, 5, none⟩ = some (.int .i64 p.port) ∧ W.cell? ⟨w1.heap.size, 6, none⟩ = some (.bool p.opq) ∧ W.cell? ⟨w1.heap.size, 7, none⟩ = some (.string p.text) ∧ W.cell? ⟨w1.heap.size, 8, none⟩ = some (.slice pa pn pc) ∧ W.cell? ⟨w1.heap.size, 9, none⟩ = some (.bool p.hasQ) ∧ W.cell? ⟨w1.heap.size, 10, none⟩ = some (.bool p.hasF) ∧ W.cell? ⟨w1.heap.size, 11, none⟩ = some (.string p.query) ∧ W.cell? ⟨w1.heap.size, 12, none⟩ = some (.string p.frag) ∧ W.cell? ⟨w.heap.size, 0, none⟩ = some (.string ⟨#[]⟩) ∧ W.cell? ⟨w.heap.size, 1, none⟩ = some (.string oh) ∧ W.cell? ⟨w.heap.size, 2, none⟩ = some (.int .i64 op) ∧ W.cell? ⟨w.heap.size, 3, none⟩ = some (.int .i64 on)) (first | go_keep | (exact KP.out _ (un_drew hb3)))
    (first | (go_at_call 36; refine hrv.mono ?_; rintro e w3 ⟨rfl, hb3⟩))
  have HB3 := Lib.hid (HBB.out.trans ((un_drew hb3).mono HBB.out.size))
  clear hb3 hrv KP HW1 HW
  go_wp2_with fail
  go_ret
  exact ⟨rfl, HB3.out⟩

set_option maxRecDepth 100000 in
set_option maxHeartbeats 2000000 in
theorem sblob_c (B s tb sb mb : Nat) (most room : Int) (ss : List SEnt) (sch user pass host : ByteArray) (hasHost : Bool) (port : Int) (opq : Bool) (text : ByteArray) (pa : Option Addr) (pn pc : Nat) (hasQ hasF : Bool) (query frag : ByteArray) (url oh : ByteArray) (op on : Int) (w : World)
    (hS : StackAt w B s tb sb mb most) (hSt : StoreAt w B sb ss room) (hall : ∀ e ∈ ss, e.sch = ⟨#[]⟩)
    (hbare : ∀ W, Calls Tryz.prog 37 #[.agg #[.string sch, .string user, .string pass, .string host, .bool hasHost, .int .i64 port, .bool opq, .string text, .slice pa pn pc, .bool hasQ, .bool hasF, .string query, .string frag]] W fun e w' => e = .returned (.string url) ∧ Below W.heap.size W w') :
    Calls Tryz.prog 13 #[.pointer (some ⟨s, 0, none⟩), .agg #[.string sch, .string user, .string pass, .string host, .bool hasHost, .int .i64 port, .bool opq, .string text, .slice pa pn pc, .bool hasQ, .bool hasF, .string query, .string frag], .agg (oriV ⟨#[]⟩ oh op on)] w fun e w' => e = .returned (.tuple #[optPtr (findS ss url on), .bool (findS ss url on).isSome]) ∧ Below w.heap.size w w' := by
  have hs1 : (w.alloc (.cells #[.string sch, .string user, .string pass, .string host, .bool hasHost, .int .i64 port, .bool opq, .string text, .slice pa pn pc, .bool hasQ, .bool hasF, .string query, .string frag] 41)).heap.size = w.heap.size + 1 := by simp
  have hb0 : Below w.heap.size w ((w.alloc (.cells #[.string sch, .string user, .string pass, .string host, .bool hasHost, .int .i64 port, .bool opq, .string text, .slice pa pn pc, .bool hasQ, .bool hasF, .string query, .string frag] 41)).alloc (.cells (oriV ⟨#[]⟩ oh op on) 23)) := ((Below.refl _ _).alloc (Nat.le_refl _) _).alloc (by rw [hs1]; omega) _
  have hr : ((w.alloc (.cells #[.string sch, .string user, .string pass, .string host, .bool hasHost, .int .i64 port, .bool opq, .string text, .slice pa pn pc, .bool hasQ, .bool hasF, .string query, .string frag] 41)).alloc (.cells (oriV ⟨#[]⟩ oh op on) 23)).heap[w.heap.size]? = some (.cells #[.string sch, .string user, .string pass, .string host, .bool hasHost, .int .i64 port, .bool opq, .string text, .slice pa pn pc, .bool hasQ, .bool hasF, .string query, .string frag] 41 (0, 0)) := by
    rw [Below.heap_alloc _ _ _ (by rw [hs1]; omega)]
    exact heap_last _ _
  have hr' : ((w.alloc (.cells #[.string sch, .string user, .string pass, .string host, .bool hasHost, .int .i64 port, .bool opq, .string text, .slice pa pn pc, .bool hasQ, .bool hasF, .string query, .string frag] 41)).alloc (.cells (oriV ⟨#[]⟩ oh op on) 23)).heap[w.heap.size + 1]? = some (.cells (oriV ⟨#[]⟩ oh op on) 23 (0, 0)) := by
    have := heap_last (w.alloc (.cells #[.string sch, .string user, .string pass, .string host, .bool hasHost, .int .i64 port, .bool opq, .string text, .slice pa pn pc, .bool hasQ, .bool hasF, .string query, .string frag] 41)) (.cells (oriV ⟨#[]⟩ oh op on) 23)
    rw [hs1] at this
    exact this
  have hS1 := hS.later hb0
  have hSt1 := hSt.later hb0
  obtain ⟨W0, hW0⟩ : ∃ W, W = ((w.alloc (.cells #[.string sch, .string user, .string pass, .string host, .bool hasHost, .int .i64 port, .bool opq, .string text, .slice pa pn pc, .bool hasQ, .bool hasF, .string query, .string frag] 41)).alloc (.cells (oriV ⟨#[]⟩ oh op on) 23)) := ⟨_, rfl⟩
  rw [← hW0] at hr hb0 hr' hS1 hSt1
  unfold oriV at hW0 hr' ⊢
  have HW : Hid (((w.alloc (.cells #[.string sch, .string user, .string pass, .string host, .bool hasHost, .int .i64 port, .bool opq, .string text, .slice pa pn pc, .bool hasQ, .bool hasF, .string query, .string frag] 41)).alloc (.cells #[.string ⟨#[]⟩, .string oh, .int .i64 op, .int .i64 on] 23)) = W0) := Lib.hid hW0.symm
  have HS1 := Lib.hid hS1
  have hlu := (Array.getElem?_eq_some_iff.1 hr).1
  have hlo := (Array.getElem?_eq_some_iff.1 hr').1
  have hls := hS1.lt
  have KP : Hid (∀ W, Below W0.heap.size W0 W → W.cell? ⟨s, 1, none⟩ = some (.pointer (some ⟨sb, 0, none⟩)) ∧ W.cell? ⟨w.heap.size, 0, none⟩ = some (.string sch) ∧ W.cell? ⟨w.heap.size, 1, none⟩ = some (.string user) ∧ W.cell? ⟨w.heap.size, 2, none⟩ = some (.string pass) ∧ W.cell? ⟨w.heap.size, 3, none⟩ = some (.string host) ∧ W.cell? ⟨w.heap.size, 4, none⟩ = some (.bool hasHost) ∧ W.cell? ⟨w.heap.size, 5, none⟩ = some (.int .i64 port) ∧ W.cell? ⟨w.heap.size, 6, none⟩ = some (.bool opq) ∧ W.cell? ⟨w.heap.size, 7, none⟩ = some (.string text) ∧ W.cell? ⟨w.heap.size, 8, none⟩ = some (.slice pa pn pc) ∧ W.cell? ⟨w.heap.size, 9, none⟩ = some (.bool hasQ) ∧ W.cell? ⟨w.heap.size, 10, none⟩ = some (.bool hasF) ∧ W.cell? ⟨w.heap.size, 11, none⟩ = some (.string query) ∧ W.cell? ⟨w.heap.size, 12, none⟩ = some (.string frag) ∧ W.cell? ⟨w.heap.size + 1, 0, none⟩ = some (.string ⟨#[]⟩) ∧ W.cell? ⟨w.heap.size + 1, 1, none⟩ = some (.string oh) ∧ W.cell? ⟨w.heap.size + 1, 2, none⟩ = some (.int .i64 op) ∧ W.cell? ⟨w.heap.size + 1, 3, none⟩ = some (.int .i64 on)) := Lib.hid fun W hk => by
    have h := (hk.block _ hlo).trans hr'
    have h' := (hk.block _ hlu).trans hr
    have h2 := (hk.block _ hls).trans HS1.out.2
    exact ⟨Lib.cell_of_heap h2 1, Lib.cell_of_heap h' 0, Lib.cell_of_heap h' 1, Lib.cell_of_heap h' 2, Lib.cell_of_heap h' 3, Lib.cell_of_heap h' 4, Lib.cell_of_heap h' 5, Lib.cell_of_heap h' 6, Lib.cell_of_heap h' 7, Lib.cell_of_heap h' 8, Lib.cell_of_heap h' 9, Lib.cell_of_heap h' 10, Lib.cell_of_heap h' 11, Lib.cell_of_heap h' 12, Lib.cell_of_heap h 0, Lib.cell_of_heap h 1, Lib.cell_of_heap h 2, Lib.cell_of_heap h 3⟩
  have hfn := fnd_c B sb ss room sch user pass host hasHost port opq text pa pn pc hasQ hasF query frag url oh op on W0.drew (hSt1.later ((Below.refl _ _).drew)) hall (fun W _ => hbare W)
  unfold oriV at hfn
  obtain ⟨bp, hbp⟩ : ∃ bp, optPtr (findS ss url on) = .pointer bp := by
    unfold optPtr; exact ⟨_, rfl⟩
  rw [hbp] at hfn ⊢
  generalize (findS ss url on).isSome = bo at *
  have HB0 := Lib.hid hb0
  clear hW0 hs1 hS hSt hall hbare hb0 hr hr' hS1 hSt1 hbp
  obtain ⟨q0, q1, q2, q3, q4, q5, q6, q7, q8, q9, q10, q11, q12, q13, q14, q15, q16, q17⟩ := KP.out W0 (Below.refl _ _)
  go_enter Tryz.func13, Tryz.ntmps13
  go_wp2_with (rw [HW.out])
  go_region_held3 (fun W => W.cell? ⟨s, 1, none⟩ = some (.pointer (some ⟨sb, 0, none⟩)) ∧ W.cell? ⟨w.heap.size, 0, none⟩ = some (.string sch) ∧ W.cell? ⟨w.heap.size, 1, none⟩ = some (.string user) ∧ W.cell? ⟨w.heap.size, 2, none⟩ = some (.string pass) ∧ W.cell? ⟨w.heap.size, 3, none⟩ = some (.string host) ∧ W.cell? ⟨w.heap.size, 4, none⟩ = some (.bool hasHost) ∧ W.cell? ⟨w.heap.size, 5, none⟩ = some (.int .i64 port) ∧ W.cell? ⟨w.heap.size, 6, none⟩ = some (.bool opq) ∧ W.cell? ⟨w.heap.size, 7, none⟩ = some (.string text) ∧ W.cell? ⟨w.heap.size, 8, none⟩ = some (.slice pa pn pc) ∧ W.cell? ⟨w.heap.size, 9, none⟩ = some (.bool hasQ) ∧ W.cell? ⟨w.heap.size, 10, none⟩ = some (.bool hasF) ∧ W.cell? ⟨w.heap.size, 11, none⟩ = some (.string query) ∧ W.cell? ⟨w.heap.size, 12, none⟩ = some (.string frag) ∧ W.cell? ⟨w.heap.size + 1, 0, none⟩ = some (.string ⟨#[]⟩) ∧ W.cell? ⟨w.heap.size + 1, 1, none⟩ = some (.string oh) ∧ W.cell? ⟨w.heap.size + 1, 2, none⟩ = some (.int .i64 op) ∧ W.cell? ⟨w.heap.size + 1, 3, none⟩ = some (.int .i64 on)) (first | go_keep | (exact KP.out _ (un_drew hb3)))
    (first | (go_at_call 34; refine hfn.mono ?_; rintro e w3 ⟨rfl, hb3⟩))
  have HB3 := Lib.hid (HB0.out.trans ((un_drew hb3).mono HB0.out.size))
  clear hb3 hfn KP HW
  go_wp2_with fail
  go_ret2
  exact ⟨rfl, HB3.out⟩

set_option maxRecDepth 100000 in
theorem stourls_none (B sb : Nat) (room : Int) (w : World) (hSt : StoreAt w B sb [] room) :
    Calls Tryz.prog 40 #[.pointer (some ⟨sb, 0, none⟩)] w fun e w' => e = .returned (.slice none 0 0) ∧ Below w.heap.size w w' := by
  obtain ⟨_, _, lv, hv, ho⟩ := hSt
  obtain ⟨a, cap, hlv⟩ : ∃ a cap, lv = .slice a 0 cap := by
    rcases ho.2 with ⟨hlv, h0⟩ | ⟨g, cap, cur, hlv, _⟩
    · exact ⟨none, 0, hlv⟩
    · exact ⟨_, cap, hlv⟩
  subst hlv
  have c0 : w.cell? ⟨sb, 0, none⟩ = some (.slice a 0 cap) := Lib.cell_of_heap hv 0
  clear ho hv
  go_enter Tryz.func40, Tryz.ntmps40
  go_wp2
  refine wp_loop_rounds 1 ?_
  rw [rounds_succ]
  go_wp2
  go_ret
  exact ⟨rfl, Below.refl _ _⟩
set_option maxRecDepth 100000 in
theorem surls_none (B s tb sb mb : Nat) (most room : Int) (w : World) (hS : StackAt w B s tb sb mb most) (hSt : StoreAt w B sb [] room) :
    Calls Tryz.prog 17 #[.pointer (some ⟨s, 0, none⟩)] w fun e w' => e = .returned (.slice none 0 0) ∧ Below w.heap.size w w' := by
  have c1 : w.cell? ⟨s, 1, none⟩ = some (.pointer (some ⟨sb, 0, none⟩)) := Lib.cell_of_heap hS.2 1
  have hu := stourls_none B sb room w hSt
  clear hS hSt
  go_enter Tryz.func17, Tryz.ntmps17
  go_wp2_with fail
  refine hu.mono ?_
  rintro e w1 ⟨rfl, hb1⟩
  go_wp2_with fail
  go_ret
  exact ⟨rfl, hb1⟩
end Go.Proofs.YtibgiohijknmbaaGreatDoor

/-
  fetch.bytes: all of a blob.
-/
namespace Go.Proofs.YtibgiohijknmbaaGreatDoor
open Go.RowKit
set_option linter.unusedVariables false
set_option linter.unusedSimpArgs false

theorem BytesOwn.set {w : World} {B b j : Nat} {v u : Value} {l : List UInt8} (h : BytesOwn w B v l) (hb : b < B) : BytesOwn (w.setCell ⟨b, j, none⟩ u) B v l :=
  ownsRow_setCell_other h (fun e => by have := (World.ownsRow.lt h b e).1; omega) _
def FBytesOk (srt : Int) (l : List UInt8) (k : ByteArray) (w : World) (e : Ending) (w' : World) : Prop :=
  ∃ a cap, e = .returned (.agg (ansV srt 200 0 (l.length : Int) k (.slice a l.length cap))) ∧ BytesOwn w' w.heap.size (.slice a l.length cap) l ∧ Below w.heap.size w w'
set_option maxRecDepth 100000 in
set_option maxHeartbeats 2000000 in
theorem fbytes_nil (B blk : Nat) (l : List UInt8) (k : ByteArray) (srt : Int) (w : World) (h : BlobAt w B blk l k) (hlen : l.length ≤ 1048576) :
    Calls Tryz.prog 53 #[.pointer (some ⟨blk, 0, none⟩), .pointer none, .agg (ansV srt 0 0 0 ⟨#[]⟩ (.slice none 0 0))] w (FBytesOk srt l k w) := by
  have hs1 : (w.alloc (.cells (ansV srt 0 0 0 ⟨#[]⟩ (.slice none 0 0)) 47)).heap.size = w.heap.size + 1 := by simp
  have hb0 : Below w.heap.size w ((w.alloc (.cells (ansV srt 0 0 0 ⟨#[]⟩ (.slice none 0 0)) 47)).alloc (.cells ans0 47)) := ((Below.refl _ _).alloc (Nat.le_refl _) _).alloc (by rw [hs1]; omega) _
  have ha0 : ((w.alloc (.cells (ansV srt 0 0 0 ⟨#[]⟩ (.slice none 0 0)) 47)).alloc (.cells ans0 47)).heap[w.heap.size]? = some (.cells (ansV srt 0 0 0 ⟨#[]⟩ (.slice none 0 0)) 47 (0, 0)) := by
    rw [Below.heap_alloc _ _ _ (by rw [hs1]; omega)]
    exact heap_last _ _
  have hr0 : ((w.alloc (.cells (ansV srt 0 0 0 ⟨#[]⟩ (.slice none 0 0)) 47)).alloc (.cells ans0 47)).heap[w.heap.size + 1]? = some (.cells ans0 47 (0, 0)) := by
    have := heap_last (w.alloc (.cells (ansV srt 0 0 0 ⟨#[]⟩ (.slice none 0 0)) 47)) (.cells ans0 47)
    rw [hs1] at this
    exact this
  have hsz0 : ((w.alloc (.cells (ansV srt 0 0 0 ⟨#[]⟩ (.slice none 0 0)) 47)).alloc (.cells ans0 47)).heap.size = w.heap.size + 2 := by simp
  have h0 := h.later hb0
  obtain ⟨W0, hW0⟩ : ∃ W, W = ((w.alloc (.cells (ansV srt 0 0 0 ⟨#[]⟩ (.slice none 0 0)) 47)).alloc (.cells ans0 47)) := ⟨_, rfl⟩
  rw [← hW0] at hb0 ha0 hr0 h0 hsz0
  unfold ansV ans0 ansV at hW0
  unfold ansV at ha0 ⊢
  unfold ans0 ansV at hr0
  have HW : Hid ((w.alloc (.cells #[.int .i64 srt, .int .i64 0, .int .i64 0, .int .i64 0, .string ⟨#[]⟩, .slice none 0 0] 47)).alloc (.cells #[.int .i64 0, .int .i64 0, .int .i64 0, .int .i64 0, .string ⟨#[]⟩, .slice none 0 0] 47) = W0) := Lib.hid hW0.symm
  have hle := len_c B blk l k W0 h0
  have hki := bkind_c B blk l k W0 h0
  have hby := bytes_c B blk l k W0 h0 (by omega)
  have HB0 := Lib.hid hb0
  have HA0 := Lib.hid ha0
  have HR0 := Lib.hid hr0
  have HSZ := Lib.hid hsz0
  clear hW0 hs1 hb0 ha0 hr0 h0 h hsz0
  go_enter Tryz.func53, Tryz.ntmps53
  go_wp2_with (rw [HW.out])
  refine hle.mono ?_
  rintro e w1 ⟨rfl, rfl⟩
  go_wp2_with fail
  refine hki.mono ?_
  rintro e w2 ⟨rfl, rfl⟩
  go_wp2_with fail
  refine hby.mono ?_
  rintro e w3 ⟨v, rfl, hv, hb3⟩
  obtain ⟨a, cap, rfl, _, _, _⟩ := hv.open
  have hz := HSZ.out
  have hz3 := hb3.size
  have hv2 : BytesOwn w3 (w.heap.size + 2) (.slice a l.length cap) l := by rw [← hz]; exact hv
  have ha3 := (hb3.block w.heap.size (by omega)).trans HA0.out
  have hr3 := (hb3.block (w.heap.size + 1) (by omega)).trans HR0.out
  have HV := Lib.hid hv2
  have HB3 := Lib.hid (HB0.out.trans (hb3.mono HB0.out.size))
  have a0 : w3.cell? ⟨w.heap.size, 0, none⟩ = some (.int .i64 srt) := Lib.cell_of_heap ha3 0
  have a1 : w3.cell? ⟨w.heap.size, 1, none⟩ = some (.int .i64 0) := Lib.cell_of_heap ha3 1
  have a2 : w3.cell? ⟨w.heap.size, 2, none⟩ = some (.int .i64 0) := Lib.cell_of_heap ha3 2
  have a3 : w3.cell? ⟨w.heap.size, 3, none⟩ = some (.int .i64 0) := Lib.cell_of_heap ha3 3
  have a4 : w3.cell? ⟨w.heap.size, 4, none⟩ = some (.string ⟨#[]⟩) := Lib.cell_of_heap ha3 4
  have a5 : w3.cell? ⟨w.heap.size, 5, none⟩ = some (.slice none 0 0) := Lib.cell_of_heap ha3 5
  have r0 : w3.cell? ⟨w.heap.size + 1, 0, none⟩ = some (.int .i64 0) := Lib.cell_of_heap hr3 0
  have r1 : w3.cell? ⟨w.heap.size + 1, 1, none⟩ = some (.int .i64 0) := Lib.cell_of_heap hr3 1
  have r2 : w3.cell? ⟨w.heap.size + 1, 2, none⟩ = some (.int .i64 0) := Lib.cell_of_heap hr3 2
  have r3 : w3.cell? ⟨w.heap.size + 1, 3, none⟩ = some (.int .i64 0) := Lib.cell_of_heap hr3 3
  have r4 : w3.cell? ⟨w.heap.size + 1, 4, none⟩ = some (.string ⟨#[]⟩) := Lib.cell_of_heap hr3 4
  have r5 : w3.cell? ⟨w.heap.size + 1, 5, none⟩ = some (.slice none 0 0) := Lib.cell_of_heap hr3 5
  have az := fun j => frozen_of_row w3 w.heap.size j _ _ ha3
  have rz := fun j => frozen_of_row w3 (w.heap.size + 1) j _ _ hr3
  have hl0 : w.heap.size < w3.heap.size := by omega
  have hl1 : w.heap.size + 1 < w3.heap.size := by omega
  clear hv hv2 ha3 hr3 hb3 hle hki hby HW hz hz3
  go_wp2_with fail
  refine bodyPost_ret (v := .agg #[.int .i64 srt, .int .i64 200, .int .i64 0, .int .i64 (l.length : Int), .string k, .slice a l.length cap]) (by simp [results, Tryz.results53, go_sem, r0, r1, r2, r3, r4, r5, a0, a1, a2, a3, a4, a5, hl0, hl1]) rfl ?_
  refine ⟨a, cap, rfl, ?_, ?_⟩
  · refine BytesOwn.base (B := w.heap.size + 2) ?_ (by omega)
    iterate 10 refine BytesOwn.set ?_ (by omega)
    exact HV.out
  · iterate 6 refine below_set ?_ _ _ (Nat.le_succ _) _
    iterate 4 refine below_set ?_ _ _ (Nat.le_refl _) _
    exact HB3.out
end Go.Proofs.YtibgiohijknmbaaGreatDoor

/-
  fetch.Fetch where a blob is found.
-/
namespace Go.Proofs.YtibgiohijknmbaaGreatDoor
open Go.RowKit
set_option linter.unusedVariables false
set_option linter.unusedSimpArgs false

def AnsIs (st fi tl : Int) (k : ByteArray) (l : List UInt8) (w : World) (e : Ending) (w' : World) : Prop :=
  ∃ a cap, e = .returned (.agg (ansV 1 st fi tl k (.slice a l.length cap))) ∧ BytesOwn w' w.heap.size (.slice a l.length cap) l ∧ Below w.heap.size w w'
set_option maxRecDepth 100000 in
set_option maxHeartbeats 2000000 in
theorem fetch_blob (sp : Option Addr) (blk : Nat) (s : ByteArray) (os oh : ByteArray) (op on : Int) (tp : Option Addr) (p : PSt) (st fi tl : Int) (k : ByteArray) (l : List UInt8) (w : World)
    (hP : ∀ W, Below w.heap.size w W → Calls Tryz.prog 26 #[.string s, .pointer none] W (ParseIs W p)) (hsort : sortI p.sch p.opq p.text = 1) (hme : ∀ W, (method 529 25 (.pointer sp) "Blob").run Tryz.prog W = .ok (13, (.pointer sp)) W)
    (hB : ∀ W pa pn pc, Below w.heap.size w W → Calls Tryz.prog 13 #[(.pointer sp), .agg (PSt.url { p with path := .slice pa pn pc }), .agg (oriV os oh op on)] W fun e w' => e = .returned (.tuple #[.pointer (some ⟨blk, 0, none⟩), .bool true]) ∧ Below W.heap.size W w')
    (hBy : ∀ W, Below w.heap.size w W → Calls Tryz.prog 53 #[.pointer (some ⟨blk, 0, none⟩), .pointer tp, .agg (ansV 1 0 0 0 ⟨#[]⟩ (.slice none 0 0))] W (AnsIs st fi tl k l W)) :
    Calls Tryz.prog 25 #[.iface 25 (.pointer sp), .string s, .agg (oriV os oh op on), .pointer tp] w (AnsIs st fi tl k l w) := by
  have HBY := Lib.hid hBy
  clear hBy
  have hb0 : Below w.heap.size w ((w.alloc (.cells (oriV os oh op on) 23)).alloc (.cells ans0 47)) := ((Below.refl _ _).alloc (Nat.le_refl _) _).alloc (by simp) _
  have hP0 := hP _ hb0
  have hr0 : ((w.alloc (.cells (oriV os oh op on) 23)).alloc (.cells ans0 47)).heap[w.heap.size + 1]? = some (.cells ans0 47 (0, 0)) := by
    have := heap_last (w.alloc (.cells (oriV os oh op on) 23)) (.cells ans0 47)
    rw [show (w.alloc (.cells (oriV os oh op on) 23)).heap.size = w.heap.size + 1 by simp] at this
    exact this
  have ho0 : ((w.alloc (.cells (oriV os oh op on) 23)).alloc (.cells ans0 47)).heap[w.heap.size]? = some (.cells (oriV os oh op on) 23 (0, 0)) := by
    rw [Below.heap_alloc _ _ _ (by simp)]
    exact heap_last _ _
  have hz0 : ((w.alloc (.cells (oriV os oh op on) 23)).alloc (.cells ans0 47)).heap.size = w.heap.size + 2 := by simp
  have HSO := Lib.hid hsort
  clear hP hsort
  have hgen : ∀ W, W = (w.alloc (.cells (oriV os oh op on) 23)).alloc (.cells ans0 47) → W = (w.alloc (.cells #[.string os, .string oh, .int .i64 op, .int .i64 on] 23)).alloc (.cells #[.int .i64 0, .int .i64 0, .int .i64 0, .int .i64 0, .string ⟨#[]⟩, .slice none 0 0] 47) := fun _ h => h
  obtain ⟨W0, hW0⟩ : ∃ W, W = (w.alloc (.cells (oriV os oh op on) 23)).alloc (.cells ans0 47) := ⟨_, rfl⟩
  rw [← hW0] at hP0 hb0 hr0 hz0 ho0
  have hW1 := Lib.hid (hgen _ hW0)
  clear hW0 hgen
  unfold oriV
  go_enter Tryz.func25, Tryz.ntmps25
  go_wp2_with fail
  rw [← hW1.out]
  clear hW1
  refine hP0.mono ?_
  rintro e w1 ⟨pa, pn, pc, rfl, hb1⟩
  have hr1 := (hb1.block _ (by omega)).trans hr0
  have hB1 := hb0.trans (hb1.mono hb0.size)
  have hz1 : w.heap.size + 2 ≤ w1.heap.size := by have := hb1.size; omega
  have HR1 := Lib.hid hr1
  have HO1 := Lib.hid ((hb1.block w.heap.size (by omega)).trans ho0)
  clear hP0 hb0 hr0 hr1 hb1 hz0 ho0
  unfold PSt.url
  simp only
  have hso := fun W => sort_c { p with path := .slice pa pn pc } pa pn pc rfl W
  simp only at hso
  rw [HSO.out] at hso
  unfold PSt.url at hso
  simp only at hso
  go_wp2_with fail
  refine (hso _).mono ?_
  rintro e w2 ⟨rfl, hb2⟩
  have hz2 : w1.heap.size + 1 ≤ w2.heap.size := by have := hb2.size; simp at this; omega
  have hr2 := (hb2.block (w.heap.size + 1) (by simp; omega)).trans ((Below.heap_alloc _ _ _ (by omega)).trans HR1.out)
  have hB2 := (hB1.alloc hB1.size _).trans (hb2.mono (by simp; omega))
  have HR2 := Lib.hid hr2
  have hlt2 : w.heap.size + 1 < w2.heap.size := by omega
  have hu2 := (hb2.block w1.heap.size (by simp)).trans (heap_last w1 _)
  have ho2 := (hb2.block w.heap.size (by simp; omega)).trans ((Below.heap_alloc _ _ _ (by omega)).trans HO1.out)
  have u0 : w2.cell? ⟨w1.heap.size, 0, none⟩ = some (.string p.sch) := Lib.cell_of_heap hu2 0
  have u1 : w2.cell? ⟨w1.heap.size, 1, none⟩ = some (.string p.user) := Lib.cell_of_heap hu2 1
  have u2 : w2.cell? ⟨w1.heap.size, 2, none⟩ = some (.string p.pass) := Lib.cell_of_heap hu2 2
  have u3 : w2.cell? ⟨w1.heap.size, 3, none⟩ = some (.string p.host) := Lib.cell_of_heap hu2 3
  have u4 : w2.cell? ⟨w1.heap.size, 4, none⟩ = some (.bool p.hasHost) := Lib.cell_of_heap hu2 4
  have u5 : w2.cell? ⟨w1.heap.size, 5, none⟩ = some (.int .i64 p.port) := Lib.cell_of_heap hu2 5
  have u6 : w2.cell? ⟨w1.heap.size, 6, none⟩ = some (.bool p.opq) := Lib.cell_of_heap hu2 6
  have u7 : w2.cell? ⟨w1.heap.size, 7, none⟩ = some (.string p.text) := Lib.cell_of_heap hu2 7
  have u8 : w2.cell? ⟨w1.heap.size, 8, none⟩ = some (.slice pa pn pc) := Lib.cell_of_heap hu2 8
  have u9 : w2.cell? ⟨w1.heap.size, 9, none⟩ = some (.bool p.hasQ) := Lib.cell_of_heap hu2 9
  have u10 : w2.cell? ⟨w1.heap.size, 10, none⟩ = some (.bool p.hasF) := Lib.cell_of_heap hu2 10
  have u11 : w2.cell? ⟨w1.heap.size, 11, none⟩ = some (.string p.query) := Lib.cell_of_heap hu2 11
  have u12 : w2.cell? ⟨w1.heap.size, 12, none⟩ = some (.string p.frag) := Lib.cell_of_heap hu2 12
  have o0 : w2.cell? ⟨w.heap.size, 0, none⟩ = some (.string os) := Lib.cell_of_heap ho2 0
  have o1 : w2.cell? ⟨w.heap.size, 1, none⟩ = some (.string oh) := Lib.cell_of_heap ho2 1
  have o2 : w2.cell? ⟨w.heap.size, 2, none⟩ = some (.int .i64 op) := Lib.cell_of_heap ho2 2
  have o3 : w2.cell? ⟨w.heap.size, 3, none⟩ = some (.int .i64 on) := Lib.cell_of_heap ho2 3
  have hl1 : w1.heap.size < w2.heap.size := by omega
  have hl0 : w.heap.size < w2.heap.size := by omega
  clear hb2 hso hB1 hu2 ho2 hr2
  have hBB := Lib.hid hB
  clear hB
  have hne : ∀ W, (binOp .eql 108 (.iface 25 (.pointer sp)) .nilIface).run Tryz.prog W = .ok (.bool false) W := fun W => by rfl
  go_wp2_with fail
  refine (hBB.out _ pa pn pc (hB2.alloc hB2.size _)).mono ?_
  rintro e w3 ⟨rfl, hb3⟩
  have ha3 := (hb3.block w2.heap.size (by simp)).trans (heap_last w2 _)
  have hr3 := (hb3.block (w.heap.size + 1) (by simp; omega)).trans ((Below.heap_alloc _ _ _ (by omega)).trans HR2.out)
  have hB3 := (hB2.alloc hB2.size _).trans (hb3.mono (by simp; omega))
  have hz3 : w2.heap.size + 1 ≤ w3.heap.size := by have := hb3.size; simp at this; omega
  have a0 : w3.cell? ⟨w2.heap.size, 0, none⟩ = some (.int .i64 1) := Lib.cell_of_heap ha3 0
  have a1 : w3.cell? ⟨w2.heap.size, 1, none⟩ = some (.int .i64 0) := Lib.cell_of_heap ha3 1
  have a2 : w3.cell? ⟨w2.heap.size, 2, none⟩ = some (.int .i64 0) := Lib.cell_of_heap ha3 2
  have a3 : w3.cell? ⟨w2.heap.size, 3, none⟩ = some (.int .i64 0) := Lib.cell_of_heap ha3 3
  have a4 : w3.cell? ⟨w2.heap.size, 4, none⟩ = some (.string ⟨#[]⟩) := Lib.cell_of_heap ha3 4
  have a5 : w3.cell? ⟨w2.heap.size, 5, none⟩ = some (.slice none 0 0) := Lib.cell_of_heap ha3 5
  have HR3 := Lib.hid hr3
  have hby := HBY.out w3 hB3
  unfold ansV at hby
  clear ha3 hr3 hb3 hne hme u0 u1 u2 u3 u4 u5 u6 u7 u8 u9 u10 u11 u12 o0 o1 o2 o3
  go_wp2_with fail
  refine hby.mono ?_
  rintro e w4 ⟨a, cap, rfl, hv, hb4⟩
  have hr4 := (hb4.block (w.heap.size + 1) (by omega)).trans HR3.out
  have hB4 := hB3.trans (hb4.mono hB3.size)
  have hz4 : w2.heap.size + 1 ≤ w4.heap.size := by have := hb4.size; omega
  have hv2 : BytesOwn w4 (w.heap.size + 2) (.slice a l.length cap) l := hv.base (by omega)
  have HV := Lib.hid hv2
  have r0 : w4.cell? ⟨w.heap.size + 1, 0, none⟩ = some (.int .i64 0) := Lib.cell_of_heap hr4 0
  have r1 : w4.cell? ⟨w.heap.size + 1, 1, none⟩ = some (.int .i64 0) := Lib.cell_of_heap hr4 1
  have r2 : w4.cell? ⟨w.heap.size + 1, 2, none⟩ = some (.int .i64 0) := Lib.cell_of_heap hr4 2
  have r3 : w4.cell? ⟨w.heap.size + 1, 3, none⟩ = some (.int .i64 0) := Lib.cell_of_heap hr4 3
  have r4 : w4.cell? ⟨w.heap.size + 1, 4, none⟩ = some (.string ⟨#[]⟩) := Lib.cell_of_heap hr4 4
  have r5 : w4.cell? ⟨w.heap.size + 1, 5, none⟩ = some (.slice none 0 0) := Lib.cell_of_heap hr4 5
  have rz := fun j => frozen_of_row w4 (w.heap.size + 1) j _ _ hr4
  have hlt4 : w.heap.size + 1 < w4.heap.size := by omega
  clear hr4 hb4 hv hv2 hby a0 a1 a2 a3 a4 a5
  unfold ansV
  go_wp2_with fail
  refine bodyPost_ret (v := .agg #[.int .i64 1, .int .i64 st, .int .i64 fi, .int .i64 tl, .string k, .slice a l.length cap]) (by simp [results, Tryz.results25, go_sem, r0, r1, r2, r3, r4, r5, hlt4]) rfl ?_
  refine ⟨a, cap, rfl, ?_, ?_⟩
  · refine BytesOwn.base (B := w.heap.size + 2) ?_ (by omega)
    iterate 6 refine BytesOwn.set ?_ (by omega)
    exact HV.out
  · iterate 6 refine below_set ?_ _ _ (Nat.le_succ _) _
    exact hB4
end Go.Proofs.YtibgiohijknmbaaGreatDoor

/-
  (*Stack).Fetch where a blob is found.
-/
namespace Go.Proofs.YtibgiohijknmbaaGreatDoor
open Go.RowKit
set_option linter.unusedVariables false
set_option linter.unusedSimpArgs false

set_option maxRecDepth 100000 in
set_option maxHeartbeats 1000000 in
theorem sfetch_own (sp : Option Addr) (s os oh : ByteArray) (op on : Int) (tp : Option Addr) (b c d : Int) (k : ByteArray) (l : List UInt8) (w : World)
    (hF : ∀ W, Below w.heap.size w W → Calls Tryz.prog 25 #[.iface 25 (.pointer sp), .string s, .agg (oriV os oh op on), .pointer tp] W (AnsIs b c d k l W)) :
    Calls Tryz.prog 18 #[.pointer sp, .string s, .agg (oriV os oh op on), .pointer tp] w (AnsIs b c d k l w) := by
  have hb0 : Below w.heap.size w ((w.alloc (.cells (oriV os oh op on) 23)).alloc (.cells ans0 47)) := ((Below.refl _ _).alloc (Nat.le_refl _) _).alloc (by simp) _
  have hF0 := hF _ hb0
  have hr0 : ((w.alloc (.cells (oriV os oh op on) 23)).alloc (.cells ans0 47)).heap[w.heap.size + 1]? = some (.cells ans0 47 (0, 0)) := by
    have := heap_last (w.alloc (.cells (oriV os oh op on) 23)) (.cells ans0 47)
    rw [show (w.alloc (.cells (oriV os oh op on) 23)).heap.size = w.heap.size + 1 by simp] at this
    exact this
  have ho0 : ((w.alloc (.cells (oriV os oh op on) 23)).alloc (.cells ans0 47)).heap[w.heap.size]? = some (.cells (oriV os oh op on) 23 (0, 0)) := by
    rw [Below.heap_alloc _ _ _ (by simp)]
    exact heap_last _ _
  have hsz : ((w.alloc (.cells (oriV os oh op on) 23)).alloc (.cells ans0 47)).heap.size = w.heap.size + 2 := by simp
  clear hF
  obtain ⟨W0, hW0⟩ : ∃ W, W = (w.alloc (.cells (oriV os oh op on) 23)).alloc (.cells ans0 47) := ⟨_, rfl⟩
  rw [← hW0] at hF0 hb0 hr0 hsz ho0
  have HW : Hid (((w.alloc (.cells #[.string os, .string oh, .int .i64 op, .int .i64 on] 23)).alloc (.cells #[.int .i64 0, .int .i64 0, .int .i64 0, .int .i64 0, .string ⟨#[]⟩, .slice none 0 0] 47)) = W0) := Lib.hid hW0.symm
  clear hW0
  have c0 : W0.cell? ⟨w.heap.size, 0, none⟩ = some (.string os) := Lib.cell_of_heap ho0 0
  have c1 : W0.cell? ⟨w.heap.size, 1, none⟩ = some (.string oh) := Lib.cell_of_heap ho0 1
  have c2 : W0.cell? ⟨w.heap.size, 2, none⟩ = some (.int .i64 op) := Lib.cell_of_heap ho0 2
  have c3 : W0.cell? ⟨w.heap.size, 3, none⟩ = some (.int .i64 on) := Lib.cell_of_heap ho0 3
  have HR := Lib.hid hr0
  have HSZ := Lib.hid hsz
  clear ho0 hr0 hsz
  unfold oriV at hF0 ⊢
  go_enter Tryz.func18, Tryz.ntmps18
  go_wp2_with (rw [HW.out])
  refine hF0.mono ?_
  rintro e w2 ⟨ba, bc, rfl, hv, hb2⟩
  have hs2 := HSZ.out
  have hr2 := (hb2.block (w.heap.size + 1) (by omega)).trans HR.out
  have hB2 := hb0.trans (hb2.mono hb0.size)
  have r0 : w2.cell? ⟨w.heap.size + 1, 0, none⟩ = some (.int .i64 0) := Lib.cell_of_heap hr2 0
  have r1 : w2.cell? ⟨w.heap.size + 1, 1, none⟩ = some (.int .i64 0) := Lib.cell_of_heap hr2 1
  have r2 : w2.cell? ⟨w.heap.size + 1, 2, none⟩ = some (.int .i64 0) := Lib.cell_of_heap hr2 2
  have r3 : w2.cell? ⟨w.heap.size + 1, 3, none⟩ = some (.int .i64 0) := Lib.cell_of_heap hr2 3
  have r4 : w2.cell? ⟨w.heap.size + 1, 4, none⟩ = some (.string ⟨#[]⟩) := Lib.cell_of_heap hr2 4
  have r5 : w2.cell? ⟨w.heap.size + 1, 5, none⟩ = some (.slice none 0 0) := Lib.cell_of_heap hr2 5
  have rz := fun j => frozen_of_row w2 (w.heap.size + 1) j _ _ hr2
  have hlt2 : w.heap.size + 1 < w2.heap.size := by have := hb2.size; omega
  have hv2 : BytesOwn w2 (w.heap.size + 2) (.slice ba l.length bc) l := hv.base (by omega)
  have HV := Lib.hid hv2
  clear hv hv2 hr2 hb2 hF0 c0 c1 c2 c3 HW hs2
  unfold ansV
  go_wp2_with fail
  refine bodyPost_ret (v := .agg #[.int .i64 1, .int .i64 b, .int .i64 c, .int .i64 d, .string k, .slice ba l.length bc]) (by simp [results, Tryz.results18, go_sem, r0, r1, r2, r3, r4, r5]) rfl ?_
  refine ⟨ba, bc, rfl, ?_, ?_⟩
  · refine BytesOwn.base (B := w.heap.size + 2) ?_ (by omega)
    iterate 6 refine BytesOwn.set ?_ (by omega)
    exact HV.out
  · iterate 6 refine below_set ?_ _ _ (Nat.le_succ _) _
    exact hB2
end Go.Proofs.YtibgiohijknmbaaGreatDoor

/-
  The URL of an opaque origin's blob: what Parse, Bare and Fetch make of its text, with and without a fragment.
-/
namespace Go.Proofs.YtibgiohijknmbaaGreatDoor
open Go.RowKit
set_option linter.unusedVariables false
set_option linter.unusedSimpArgs false

def blobL : List UInt8 := [98, 108, 111, 98]
def nullL (l : List UInt8) : List UInt8 := [110, 117, 108, 108, 47] ++ l
def opqPF (sch rest frag : List UInt8) : PSt := { pst0 with sch := bstr sch, opq := true, text := bstr rest, hasF := true, frag := bstr (escL 1 frag) }
theorem good_ink {l : List UInt8} (h : ∀ c ∈ l, goodB c = true) : Ink (nullL l) ∧ 35 ∉ nullL l ∧ 63 ∉ nullL l := by
  have hg : ∀ c : UInt8, goodB c = true → 33 ≤ c.toNat ∧ c.toNat ≤ 126 ∧ c ≠ 35 ∧ c ≠ 63 := by
    intro c hc
    have h2 : ∀ n : Fin 256, goodB (UInt8.ofNat n.val) = true → 33 ≤ (UInt8.ofNat n.val).toNat ∧ (UInt8.ofNat n.val).toNat ≤ 126 ∧ UInt8.ofNat n.val ≠ 35 ∧ UInt8.ofNat n.val ≠ 63 := by decide +kernel
    have e : UInt8.ofNat c.toNat = c := by simp
    have := h2 ⟨c.toNat, c.toNat_lt⟩
    simp only [e] at this
    exact this hc
  refine ⟨?_, ?_, ?_⟩
  · intro c hc
    rcases List.mem_append.1 hc with h1 | h1
    · have : ∀ x ∈ ([110, 117, 108, 108, 47] : List UInt8), 33 ≤ x.toNat ∧ x.toNat ≤ 126 := by decide
      exact this c h1
    · obtain ⟨a, b, _⟩ := hg c (h c h1); exact ⟨a, b⟩
  · intro hc
    rcases List.mem_append.1 hc with h1 | h1
    · revert h1; decide
    · exact (hg _ (h _ h1)).2.2.1 rfl
  · intro hc
    rcases List.mem_append.1 hc with h1 | h1
    · revert h1; decide
    · exact (hg _ (h _ h1)).2.2.2 rfl
theorem null_rest {l : List UInt8} (h : ∀ c ∈ l, goodB c = true) : RestOk (nullL l) := by
  obtain ⟨a, b, c⟩ := good_ink h
  exact ⟨a, b, c, rfl⟩
theorem nameOf_text (l : List UInt8) : (nameOf l).data.toList = opqText blobL (nullL l) [] false := by
  simp [nameOf, bstr, opqText, blobNull, blobL, nullL]
theorem nameOf_size (l : List UInt8) (h : l.length = 36) : (nameOf l).size = 46 := by
  have : (nameOf l).size = (blobNull ++ l).length := by show (blobNull ++ l).toArray.size = _; simp
  rw [this, List.length_append, h]; rfl
theorem parse_name (l : List UInt8) (hl : l.length = 36) (hg : ∀ c ∈ l, goodB c = true) (m : Int) (w : World) (hT : Lib.Utf8Tabs 1 2 w) (hm : w.cell? ⟨0, 0, none⟩ = some (.int .i64 m)) (h0 : 0 < w.heap.size) :
    Calls Tryz.prog 26 #[.string (nameOf l), .pointer none] w (ParseIs w (opqP blobL (nullL l))) :=
  parse_is _ _ (nameOf l) m w hT hm h0 (by rw [nameOf_size l hl]; decide) (nameOf_text l) (by decide) (null_rest hg)
/-- The same, with a fragment of one sign. -/
def fragOf (l : List UInt8) (c : UInt8) : ByteArray := nameOf l ++ ⟨#[35, c]⟩
theorem parse_frag (l : List UInt8) (c : UInt8) (hc : Ink [c]) (hl : l.length = 36) (hg : ∀ c ∈ l, goodB c = true) (m : Int) (w : World) (hT : Lib.Utf8Tabs 1 2 w) (hm : w.cell? ⟨0, 0, none⟩ = some (.int .i64 m)) (h0 : 0 < w.heap.size) :
    Calls Tryz.prog 26 #[.string (fragOf l c), .pointer none] w (ParseIs w (opqPF blobL (nullL l) [c])) := by
  have hs : (fragOf l c).size = 48 := by
    unfold fragOf
    rw [ByteArray.size_append, nameOf_size l hl]; rfl
  refine (parse_opq blobL (nullL l) [c] true (fragOf l c) m w hT hm h0 (by rw [hs]; decide) ?_ (fun h => by cases h) (by decide) (null_rest hg) hc).mono ?_
  · simp [fragOf, ByteArray.data_append, opqText, nameOf, bstr, blobNull, blobL, nullL]
  · rintro e w' ⟨pa, pn, pc, he, hb⟩
    exact ⟨pa, pn, pc, he, hb⟩
theorem bare_any (p : PSt) (l : List UInt8) (hl : l.length = 36) (hsch : p.sch = bstr blobL) (htext : p.text = bstr (nullL l)) (hh : p.hasHost = false) (ho : p.opq = true) (hq : p.hasQ = false) (hqq : p.query = ⟨#[]⟩) (pa : Option Addr) (pn pc : Nat) (W : World) :
    Calls Tryz.prog 37 #[.agg (PSt.url { p with path := .slice pa pn pc })] W fun e w' => e = .returned (.string (nameOf l)) ∧ Below W.heap.size W w' := by
  have hz : (bstr (nullL l)).size = 41 := by show (nullL l).toArray.size = _; simp [nullL, hl]
  refine (bare_opq { p with path := .slice pa pn pc } pa pn pc rfl hh ho W (by simp only [hsch]; decide) (by simp only [htext, hz]; decide) (by simp only [hqq]; decide)).mono ?_
  rintro e w' ⟨rfl, hb⟩
  refine ⟨ret_s ?_, hb⟩
  simp only [bareOpq, queryS, hsch, htext, hq]
  simp [bstr, nameOf, blobNull, blobL, nullL]
theorem bare_name (l : List UInt8) (hl : l.length = 36) (pa : Option Addr) (pn pc : Nat) (W : World) :
    Calls Tryz.prog 37 #[.agg (PSt.url { opqP blobL (nullL l) with path := .slice pa pn pc })] W fun e w' => e = .returned (.string (nameOf l)) ∧ Below W.heap.size W w' :=
  bare_any _ l hl rfl rfl rfl rfl rfl rfl pa pn pc W
theorem bare_frag (l : List UInt8) (c : UInt8) (hl : l.length = 36) (pa : Option Addr) (pn pc : Nat) (W : World) :
    Calls Tryz.prog 37 #[.agg (PSt.url { opqPF blobL (nullL l) [c] with path := .slice pa pn pc })] W fun e w' => e = .returned (.string (nameOf l)) ∧ Below W.heap.size W w' :=
  bare_any _ l hl rfl rfl rfl rfl rfl rfl pa pn pc W
theorem conv_src {w : World} {a : Option Addr} {cap : Nat} {l : List UInt8} (h : SrcAt w a cap l) :
    (convert 29 9 (.slice a l.length cap)).run Tryz.prog w = .ok (.string ⟨l.toArray⟩) w := by
  rcases h with ⟨rfl, rfl, rfl⟩ | ⟨b, off, rfl, hby, hb⟩
  · exact run_convert_bytes_nil (P := Tryz.prog) w 29 5 Tryz.underlying29 Tryz.underlying5 0 0 9 Tryz.underlying9
  · have := run_convert_bytes_arg (P := Tryz.prog) w 29 5 Tryz.underlying29 Tryz.underlying5 b off l.length cap (l.map fun b => ((b.toNat : Nat) : Int)) (by simp) (fun i hi => by
      rw [hby i hi]
      simp [List.getD_eq_getElem?_getD, List.getElem?_eq_getElem hi]) 9 Tryz.underlying9
    rw [this]
    have hc : (l.map fun b => UInt8.ofNat (((b.toNat : Nat) : Int)).toNat) = l := by
      conv => rhs; rw [← List.map_id l]
      refine List.map_congr_left fun b _ => ?_
      simp
    simp [strOfNums]
    exact hc
theorem find_one (en : SEnt) (on : Int) (hn : en.nonce = on) : findS [en] en.url on = some en.blk := by
  have h : bEq en.url en.url = true := by simp [bEq]
  unfold findS getS
  simp [h, hn]
theorem find_nil (u : ByteArray) (on : Int) : findS [] u on = none := rfl
theorem own_nil (u : ByteArray) (on : Int) : ownI [] u on < 0 := by unfold ownI getS; simp
end Go.Proofs.YtibgiohijknmbaaGreatDoor
