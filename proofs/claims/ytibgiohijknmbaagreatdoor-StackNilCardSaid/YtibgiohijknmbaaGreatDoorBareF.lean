/-
  url.Bare: of URLs with a host and a path, without a user and a port.
-/
import Derived.Test.YtibgiohijknmbaaGreatDoorBare
namespace Go.Proofs.YtibgiohijknmbaaGreatDoor
open Go.RowKit
set_option linter.unusedVariables false
set_option linter.unusedSimpArgs false

/-- What Bare writes of a URL with a host and a path, without a user and a port. -/
def bareFile (p : PSt) (l : List ByteArray) : List UInt8 := p.sch.data.toList ++ 58 :: (47 :: 47 :: p.host.data.toList ++ (pathB l ++ queryS p))
set_option maxRecDepth 100000 in
set_option maxHeartbeats 1000000 in
theorem bare_file (p : PSt) (pa : Option Addr) (pc : Nat) (l : List ByteArray) (hp : p.path = .slice pa l.length pc) (hh : p.hasHost = true) (hu : p.user = ⟨#[]⟩) (hw : p.pass = ⟨#[]⟩) (hport : p.port = -1) (ho : p.opq = false) (w : World) (hrd : PathRd w pa pc l) (z1 : p.sch.size ≤ 1073741824) (z0 : p.host.size ≤ 1073741824) (z2 : (pathB l).length ≤ 1073741824) (z3 : p.query.size ≤ 1073741824) :
    Calls Tryz.prog 37 #[.agg (PSt.url p)] w fun e w' => e = .returned (.string ⟨(bareFile p l).toArray⟩) ∧ Below w.heap.size w w' := by
  have I0 := (u_start w p).var
  have hb0 := (u_start w p).bel
  have hau := fun W => auth_file p pa l.length pc hp hh hu hw hport z0 W
  have hpa := fun W (h : Below w.heap.size w W) => upath_c p pa pc l hp ho W (hrd.below h) z2
  have hres : bareFile p l = p.sch.data.toList ++ 58 :: (47 :: 47 :: p.host.data.toList ++ (pathB l ++ queryS p)) := rfl
  have hq : queryS p = if p.hasQ = true then 63 :: p.query.data.toList else [] := rfl
  obtain ⟨sch, user, pass, host, hasHost, port, opq, text, path, hasQ, hasF, query, frag, rest, q, f, bad⟩ := p
  simp only at hp hh hu hw hport ho z0 z1 z3 hres hq hau
  subst hp
  subst hh
  subst hu
  subst hw
  subst hport
  subst ho
  generalize bareFile _ l = res at *
  have HRES := Lib.hid hres
  have HQ := Lib.hid hq
  clear hres hq
  unfold PSt.url at hau hpa hb0 ⊢
  simp only at hau hpa hb0 ⊢
  go_enter Tryz.func37, Tryz.ntmps37
  go_wp2_with fail
  have s1 : sch.size + 1 ≤ 9223372036854775807 := by omega
  have s2 : (sch ++ ⟨#[58]⟩).size ≤ 9223372036854775807 := by rw [ByteArray.size_append]; exact s1
  have s3 : ∀ W, (Op.stringOp .add sch ⟨#[58]⟩).run Tryz.prog W = .ok (.string (sch ++ ⟨#[58]⟩)) W := fun W => run_string_add_sum W sch ⟨#[58]⟩ (by show sch.size + 1 ≤ 9223372036854775807; omega)
  have hAz : (⟨(47 :: 47 :: host.data.toList).toArray⟩ : ByteArray).size = host.size + 2 := by
    show (47 :: 47 :: host.data.toList).toArray.size = _
    rw [List.size_toArray, List.length_cons, List.length_cons, Array.length_toList]
    rfl
  have hAd : (⟨(47 :: 47 :: host.data.toList).toArray⟩ : ByteArray).data = (47 :: 47 :: host.data.toList).toArray := rfl
  have hPz : (⟨(pathB l).toArray⟩ : ByteArray).size = (pathB l).length := by show (pathB l).toArray.size = _; simp
  have hPd : (⟨(pathB l).toArray⟩ : ByteArray).data = (pathB l).toArray := rfl
  generalize (⟨(47 :: 47 :: host.data.toList).toArray⟩ : ByteArray) = A at *
  generalize (⟨(pathB l).toArray⟩ : ByteArray) = text2 at *
  have HAD := Lib.hid hAd
  have HPD := Lib.hid hPd
  have hA2 : A.size ≤ 1073741826 := by omega
  have hP2 : text2.size ≤ 1073741824 := by omega
  clear hAd hPd hAz hPz
  have s5 : ∀ W, (Op.stringOp .add (sch ++ ⟨#[58]⟩) A).run Tryz.prog W = .ok (.string (sch ++ ⟨#[58]⟩ ++ A)) W := fun W => run_string_add_sum W (sch ++ ⟨#[58]⟩) A (by rw [ByteArray.size_append]; show sch.size + 1 + _ ≤ 9223372036854775807; omega)
  unfold PSt.url at I0
  simp only at I0
  generalize w.alloc (.cells #[.string sch, .string ⟨#[]⟩, .string ⟨#[]⟩, .string host, .bool true, .int .i64 (-1), .bool false, .string text, .slice pa l.length pc, .bool hasQ, .bool hasF, .string query, .string frag] 41) = W0 at *
  have KP : Hid (∀ W, Below W0.heap.size W0 W → W.cell? ⟨w.heap.size, 0, none⟩ = some (.string sch) ∧ W.cell? ⟨w.heap.size, 1, none⟩ = some (.string ⟨#[]⟩) ∧ W.cell? ⟨w.heap.size, 2, none⟩ = some (.string ⟨#[]⟩) ∧ W.cell? ⟨w.heap.size, 3, none⟩ = some (.string host) ∧ W.cell? ⟨w.heap.size, 4, none⟩ = some (.bool true) ∧ W.cell? ⟨w.heap.size, 5, none⟩ = some (.int .i64 (-1)) ∧ W.cell? ⟨w.heap.size, 6, none⟩ = some (.bool false) ∧ W.cell? ⟨w.heap.size, 7, none⟩ = some (.string text) ∧ W.cell? ⟨w.heap.size, 8, none⟩ = some (.slice pa l.length pc) ∧ W.cell? ⟨w.heap.size, 9, none⟩ = some (.bool hasQ) ∧ W.cell? ⟨w.heap.size, 10, none⟩ = some (.bool hasF) ∧ W.cell? ⟨w.heap.size, 11, none⟩ = some (.string query) ∧ W.cell? ⟨w.heap.size, 12, none⟩ = some (.string frag)) := fun W hb => by
    have h := (hb.block _ (Array.getElem?_eq_some_iff.1 I0).1).trans I0
    exact ⟨Lib.cell_of_heap h 0, Lib.cell_of_heap h 1, Lib.cell_of_heap h 2, Lib.cell_of_heap h 3, Lib.cell_of_heap h 4, Lib.cell_of_heap h 5, Lib.cell_of_heap h 6, Lib.cell_of_heap h 7, Lib.cell_of_heap h 8, Lib.cell_of_heap h 9, Lib.cell_of_heap h 10, Lib.cell_of_heap h 11, Lib.cell_of_heap h 12⟩
  obtain ⟨q0, q1, q2, q3, q4, q5, q6, q7, q8, q9, q10, q11, q12⟩ := KP.out W0 (Below.refl _ _)
  go_region_held3 (fun W => W.cell? ⟨w.heap.size, 0, none⟩ = some (.string sch) ∧ W.cell? ⟨w.heap.size, 1, none⟩ = some (.string ⟨#[]⟩) ∧ W.cell? ⟨w.heap.size, 2, none⟩ = some (.string ⟨#[]⟩) ∧ W.cell? ⟨w.heap.size, 3, none⟩ = some (.string host) ∧ W.cell? ⟨w.heap.size, 4, none⟩ = some (.bool true) ∧ W.cell? ⟨w.heap.size, 5, none⟩ = some (.int .i64 (-1)) ∧ W.cell? ⟨w.heap.size, 6, none⟩ = some (.bool false) ∧ W.cell? ⟨w.heap.size, 7, none⟩ = some (.string text) ∧ W.cell? ⟨w.heap.size, 8, none⟩ = some (.slice pa l.length pc) ∧ W.cell? ⟨w.heap.size, 9, none⟩ = some (.bool hasQ) ∧ W.cell? ⟨w.heap.size, 10, none⟩ = some (.bool hasF) ∧ W.cell? ⟨w.heap.size, 11, none⟩ = some (.string query) ∧ W.cell? ⟨w.heap.size, 12, none⟩ = some (.string frag)) (first | go_keep | (exact KP.out _ (un_drew hb1)))
    (first | (go_at_call 73; refine (hau _).mono ?_; rintro e w1 ⟨rfl, hb1⟩))
  have hb1 := un_drew hb1
  obtain ⟨k0, k1, k2, k3, k4, k5, k6, k7, k8, k9, k10, k11, k12⟩ := KP.out w1 hb1
  have hl : w.heap.size < w1.heap.size := by have := (Array.getElem?_eq_some_iff.1 I0).1; have := hb1.size; omega
  clear q0 q1 q2 q3 q4 q5 q6 q7 q8 q9 q10 q11 q12 I0
  clear s3 s5
  have hT1 : (sch ++ ⟨#[58]⟩ ++ A).size = sch.size + 1 + A.size := by rw [ByteArray.size_append, ByteArray.size_append]; rfl
  have HFIN : Hid (∀ t : ByteArray, t = (if hasQ = true then (⟨#[63]⟩ : ByteArray) ++ query else ⟨#[]⟩) → (⟨res.toArray⟩ : ByteArray) = sch ++ ⟨#[58]⟩ ++ A ++ text2 ++ t) := fun t ht => by
    subst ht
    apply ByteArray.ext
    rw [HRES.out, HQ.out]
    cases hasQ <;> simp [ByteArray.data_append, HAD.out, HPD.out]
  generalize sch ++ ⟨#[58]⟩ ++ A = T1 at *
  have hT2 : (T1 ++ text2).size = T1.size + text2.size := by rw [ByteArray.size_append]
  have hTb : T1.size + text2.size ≤ 9223372036854775807 := by omega
  have hT3 : ((⟨#[63]⟩ : ByteArray) ++ query).size = 1 + query.size := by rw [ByteArray.size_append]; rfl
  have hTc : 1 + query.size ≤ 9223372036854775807 := by omega
  have hTd : (T1 ++ text2).size + ((⟨#[63]⟩ : ByteArray) ++ query).size ≤ 9223372036854775807 := by omega
  have HT := Lib.hid (And.intro hT1 (And.intro hT2 hT3))
  clear hT1 hT2 hT3
  go_wp2_with fail
  refine (hpa _ (hb0.trans (hb1.mono hb0.size))).mono ?_
  rintro e w2 ⟨rfl, hb2⟩
  have hB2 := hb1.trans (hb2.mono hb1.size)
  obtain ⟨j0, j1, j2, j3, j4, j5, j6, j7, j8, j9, j10, j11, j12⟩ := KP.out w2 hB2
  have hBB := hb0.trans (hB2.mono hb0.size)
  have hl2 : w.heap.size < w2.heap.size := by have := hb2.size; omega
  clear k0 k1 k2 k3 k4 k5 k6 k7 k8 k9 k10 k11 k12 hb1 hb2 hB2 hpa hau
  have e1 := fun W => run_string_add_sum (P := Tryz.prog) W T1 text2 hTb
  have e2 := fun W => run_string_add_sum (P := Tryz.prog) W ⟨#[63]⟩ query (by show 1 + query.size ≤ _; omega)
  have e3 := fun W => run_string_add_sum (P := Tryz.prog) W (T1 ++ text2) ((⟨#[63]⟩ : ByteArray) ++ query) hTd
  cases hasQ with
  | true =>
    go_wp2
    go_ret
    exact ⟨ret_s (HFIN.out _ rfl).symm, hBB⟩
  | false =>
    go_wp2
    go_ret
    refine ⟨ret_s ?_, hBB⟩
    rw [HFIN.out _ rfl, if_neg (by decide), app_nil]
end Go.Proofs.YtibgiohijknmbaaGreatDoor
