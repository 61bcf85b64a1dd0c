/-
  parser.finish, parser.opaque, parser.schemed where the path is opaque.
-/
import Derived.Test.YtibgiohijknmbaaGreatDoorPState
import Derived.Test.YtibgiohijknmbaaGreatDoorEsc
import Derived.Test.YtibgiohijknmbaaGreatDoorRepL
namespace Go.Proofs.YtibgiohijknmbaaGreatDoor
open Go.RowKit
set_option linter.unusedVariables false
set_option linter.unusedSimpArgs false

def bstr (l : List UInt8) : ByteArray := ⟨l.toArray⟩
def escS (set : Int) (s : ByteArray) : ByteArray := ⟨(escL set s.data.toList).toArray⟩
def querySet (p : PSt) : Int := if specialB p.sch.data.toList = true then 3 else 2
def PSt.finish (p : PSt) : PSt := { p with query := if p.q = ⟨#[]⟩ then p.query else escS (querySet p) p.q, frag := escS 1 p.f }

set_option maxRecDepth 100000 in
set_option maxHeartbeats 1000000 in
/-- finish, from its second half on: the fragment. -/
theorem finish_c (p : PSt) (b : Nat) (w : World) (h : ParserAt w b p) (hs : p.sch.size ≤ maxLen) (hq : p.q.size ≤ 1073741824) (hf : p.f.size ≤ 1073741824) :
    Calls Tryz.prog 59 #[.pointer (some ⟨b, 0, none⟩)] w fun e w' => e = .returned (.tuple #[]) ∧ ParserAt w' b p.finish ∧ w.grownBy w' (some b) := by
  have hbw := h.lt
  have c0 := h.cell 0
  have c15 := h.cell 15
  have c16 := h.cell 16
  simp only [PSt.cells] at c0 c15 c16
  have c11 := h.cell 11
  have c12 := h.cell 12
  simp only [PSt.cells] at c11 c12
  have fz := fun j => h.free j
  have hp : p.finish = { p with query := if p.q = ⟨#[]⟩ then p.query else escS (querySet p) p.q, frag := escS 1 p.f } := rfl
  have hset : 0 ≤ querySet p ∧ querySet p ≤ 6 := by unfold querySet; split <;> omega
  have hqs : querySet p = if specialB p.sch.data.toList = true then 3 else 2 := rfl
  generalize p.finish = p' at *
  have HP := Lib.hid hp
  generalize querySet p = set at *
  have HS := Lib.hid hqs
  clear hp hqs
  have hcv := fun W => esc_conv p.f W
  by_cases hq0 : p.q = ⟨#[]⟩
  · rw [hq0] at c15
    have HQ := Lib.hid hq0
    clear hq0 hq c11
    go_enter Tryz.func59, Tryz.ntmps59
    go_wp2_with (go_at_call 107; refine (special_c _ _ hs).mono ?_; rintro e w1 ⟨rfl, hb⟩; obtain ⟨hk, hz⟩ := below_cells hb)
    all_goals
      refine (esc_at 1 p.f w1 _ _ rfl rfl (by decide) (by decide) hf).mono ?_
      rintro e w2 ⟨rfl, hb2⟩
      have hB := hb.trans (hb2.mono hb.size)
      obtain ⟨hk2, hz2⟩ := below_cells hB
      have hP2 := h.below hB
      go_wp2
      go_end0
      exact ⟨rfl, hP2.set (by rw [HP.out]; simp [PSt.cells, HQ.out, escS]), grown_set (grown_below hB _) _ _⟩
  · have hqe : p.q.toList.isEmpty = false := by
      rw [ByteArray.toList_eq]
      cases hl : p.q.data.toList with
      | nil =>
        refine absurd ?_ hq0
        have e := self_bytes p.q
        rw [hl] at e
        exact e
      | cons _ _ => rfl
    have HQ := Lib.hid hq0
    have hq1 : ¬ p.q = ⟨#[]⟩ := hq0
    have hcq := fun W => esc_conv p.q W
    clear hq0
    cases hsp : specialB p.sch.data.toList with
    | true =>
      have hset : set = 3 := by rw [HS.out, if_pos hsp]
      have HS := Lib.hid hset
      have HSP := Lib.hid hsp
      clear hsp hset
      go_enter Tryz.func59, Tryz.ntmps59
      go_wp2_with (go_at_call 107; refine (special_c _ _ hs).mono ?_; rintro e w1 ⟨rfl, hb⟩; obtain ⟨hk, hz⟩ := below_cells hb; rw [HSP.out])
      refine (esc_at 3 p.q w1 _ _ rfl rfl (by decide) (by decide) hq).mono ?_
      rintro e w2 ⟨rfl, hb2⟩
      have hB := hb.trans (hb2.mono hb.size)
      obtain ⟨hk2, hz2⟩ := below_cells hB
      have hP2 := (h.below hB).set (j := 11) (v := .string ⟨(escL 3 p.q.data.toList).toArray⟩) (p' := { p with query := escS 3 p.q }) (by simp [PSt.cells, escS])
      have hG2 := grown_set (grown_below hB (some b)) 11 (.string ⟨(escL 3 p.q.data.toList).toArray⟩)
      clear hk hz hb hb2
      go_wp2_with fail
      refine (esc_at 1 p.f (w2.setCell ⟨b, 11, none⟩ (.string ⟨(escL 3 p.q.data.toList).toArray⟩)) w2.heap.size _ (by simp [World.setCell]) rfl (by decide) (by decide) hf).mono ?_
      rintro e w3 ⟨rfl, hb3⟩
      have hP3 := hP2.below hb3
      have hG3 := hG2.trans (grown_below hb3 (some b))
      have hlt3 : b < w3.heap.size := hP3.lt
      have k12 := hP3.cell 12
      simp only [PSt.cells] at k12
      have fz3 := hP3.free 12
      clear hk2 hz2 hB
      go_wp2
      go_end0
      exact ⟨rfl, hP3.set (by rw [HP.out, HS.out]; simp [PSt.cells, HQ.out, escS]), grown_set hG3 _ _⟩
    | false =>
      have hset : set = 2 := by rw [HS.out, if_neg (by rw [hsp]; decide)]
      have HS := Lib.hid hset
      have HSP := Lib.hid hsp
      clear hsp hset
      go_enter Tryz.func59, Tryz.ntmps59
      go_wp2_with (go_at_call 107; refine (special_c _ _ hs).mono ?_; rintro e w1 ⟨rfl, hb⟩; obtain ⟨hk, hz⟩ := below_cells hb; rw [HSP.out])
      refine (esc_at 2 p.q w1 _ _ rfl rfl (by decide) (by decide) hq).mono ?_
      rintro e w2 ⟨rfl, hb2⟩
      have hB := hb.trans (hb2.mono hb.size)
      obtain ⟨hk2, hz2⟩ := below_cells hB
      have hP2 := (h.below hB).set (j := 11) (v := .string ⟨(escL 2 p.q.data.toList).toArray⟩) (p' := { p with query := escS 2 p.q }) (by simp [PSt.cells, escS])
      have hG2 := grown_set (grown_below hB (some b)) 11 (.string ⟨(escL 2 p.q.data.toList).toArray⟩)
      clear hk hz hb hb2
      go_wp2_with fail
      refine (esc_at 1 p.f (w2.setCell ⟨b, 11, none⟩ (.string ⟨(escL 2 p.q.data.toList).toArray⟩)) w2.heap.size _ (by simp [World.setCell]) rfl (by decide) (by decide) hf).mono ?_
      rintro e w3 ⟨rfl, hb3⟩
      have hP3 := hP2.below hb3
      have hG3 := hG2.trans (grown_below hb3 (some b))
      have hlt3 : b < w3.heap.size := hP3.lt
      have k12 := hP3.cell 12
      simp only [PSt.cells] at k12
      have fz3 := hP3.free 12
      clear hk2 hz2 hB
      go_wp2
      go_end0
      exact ⟨rfl, hP3.set (by rw [HP.out, HS.out]; simp [PSt.cells, HQ.out, escS]), grown_set hG3 _ _⟩

/-! an opaque path -/
def opqS (more : Bool) (s : ByteArray) : ByteArray :=
  if more = true ∧ Lib.hasSuffix s.data.toList [32] = true then ⟨(escL 0 s.data.toList.dropLast).toArray⟩ ++ ⟨#[37, 50, 48]⟩ else escS 0 s ++ ⟨#[]⟩
def PSt.opqd (p : PSt) : PSt := { p with opq := true, text := opqS (p.hasQ || p.hasF) p.rest }

theorem suffix_size {s : ByteArray} (h : Lib.hasSuffix s.data.toList [32] = true) : 1 ≤ s.size := by
  have sz : s.size = s.data.toList.length := by rw [Array.length_toList]; rfl
  rw [sz]
  unfold Lib.hasSuffix at h
  have := (List.isSuffixOf_iff_suffix.1 h).length_le
  simpa using this

set_option maxRecDepth 100000 in
set_option maxHeartbeats 1000000 in
theorem opaque_c (p : PSt) (b : Nat) (w : World) (h : ParserAt w b p) (hr : p.rest.size ≤ 1073741824) :
    Calls Tryz.prog 114 #[.pointer (some ⟨b, 0, none⟩)] w fun e w' => e = .returned (.tuple #[]) ∧ ParserAt w' b p.opqd ∧ w.grownBy w' (some b) := by
  have hbw := h.lt
  have c14 : w.cell? ⟨b, 14, none⟩ = some (.string p.rest) := h.cell 14
  have c9 : w.cell? ⟨b, 9, none⟩ = some (.bool p.hasQ) := h.cell 9
  have c10 : w.cell? ⟨b, 10, none⟩ = some (.bool p.hasF) := h.cell 10
  have c6 : w.cell? ⟨b, 6, none⟩ = some (.bool p.opq) := h.cell 6
  have c7 : w.cell? ⟨b, 7, none⟩ = some (.string p.text) := h.cell 7
  have fz := fun j => h.free j
  have hp : p.opqd = { p with opq := true, text := opqS (p.hasQ || p.hasF) p.rest } := rfl
  have hcv := fun s W => esc_conv s W
  generalize p.opqd = p' at *
  have HP := Lib.hid hp
  clear hp
  have hsx := fun W => Tryz.strings_HasSuffix p.rest ⟨#[32]⟩ W (by omega)
  have e32 : (⟨#[32]⟩ : ByteArray).data.toList = [32] := rfl
  rw [e32] at hsx
  clear e32
  generalize hQ : p.hasQ = bq at *
  generalize hF : p.hasF = bf at *
  have HQ := Lib.hid hQ
  have HF := Lib.hid hF
  clear hQ hF
  have hend : ∀ (w2 : World) (t : ByteArray), Below w.heap.size w w2 → t = opqS (bq || bf) p.rest → ParserAt ((w2.setCell ⟨b, 6, none⟩ (.bool true)).setCell ⟨b, 7, none⟩ (.string t)) b p' ∧ w.grownBy ((w2.setCell ⟨b, 6, none⟩ (.bool true)).setCell ⟨b, 7, none⟩ (.string t)) (some b) := fun w2 t hB ht => by
    refine ⟨?_, grown_set (grown_set (grown_below hB _) _ _) _ _⟩
    refine ParserAt.set (p := { p with opq := true }) (ParserAt.set (p := p) (h.below hB) (by simp [PSt.cells])) ?_
    rw [HP.out, ht]
    simp [PSt.cells, HQ.out, HF.out]
  have HE := Lib.hid hend
  clear hend
  have hsz : p.rest.data.toList.length = p.rest.size := by rw [Array.length_toList]; rfl
  by_cases hm : (bq || bf) = true
  · by_cases hx : Lib.hasSuffix p.rest.data.toList [32] = true
    · have h1 := suffix_size hx
      have hre : opqS (bq || bf) p.rest = ⟨(escL 0 p.rest.data.toList.dropLast).toArray⟩ ++ ⟨#[37, 50, 48]⟩ := by unfold opqS; rw [if_pos ⟨hm, hx⟩]
      have HR := Lib.hid hre
      have hsx' : ∀ W, Calls Tryz.prog 174 #[.string p.rest, .string ⟨#[32]⟩] W fun e w' => e = .returned (.bool true) ∧ w' = W := by rw [hx] at hsx; exact hsx
      have hse : (p.rest.extract 0 (p.rest.size - 1)).size = p.rest.size - 1 := by rw [ByteArray.size_extract]; omega
      have hes : (p.rest.extract 0 (p.rest.size - 1)).size ≤ 1073741824 := by rw [hse]; omega
      have hln : (escL 0 p.rest.data.toList.dropLast).length + 3 ≤ 9223372036854775807 := by
        have := escL_length 0 p.rest.data.toList.dropLast
        rw [List.length_dropLast] at this
        omega
      clear hre hsx hx h hsz
      have hbb : (bq = true) ∨ (bq = false ∧ bf = true) := by cases bq <;> cases bf <;> simp_all
      clear hm
      rcases hbb with rfl | ⟨rfl, rfl⟩
      all_goals
        go_enter Tryz.func114, Tryz.ntmps114
        go_wp2
        go_quiet (fail)
        go_wp2_with fail
        refine (hsx' _).mono ?_
        rintro e w' ⟨rfl, rfl⟩
        go_wp2_with fail
        refine (esc_at 0 (p.rest.extract 0 (p.rest.size - 1)) _ w.heap.size _ (by rfl) hse (by decide) (by decide) hes).mono ?_
        rintro e w2 ⟨rfl, hb2⟩
        have hB := (below_drewN w _).trans hb2
        obtain ⟨hk2, hz2⟩ := below_cells hB
        go_wp2
        go_end0
        exact ⟨rfl, HE.out _ _ hB HR.out.symm⟩
    · have hre : opqS (bq || bf) p.rest = escS 0 p.rest ++ ⟨#[]⟩ := by unfold opqS; rw [if_neg (fun hh => hx hh.2)]
      have HR := Lib.hid hre
      have hx' : Lib.hasSuffix p.rest.data.toList [32] = false := by simpa using hx
      have hsx' : ∀ W, Calls Tryz.prog 174 #[.string p.rest, .string ⟨#[32]⟩] W fun e w' => e = .returned (.bool false) ∧ w' = W := by rw [hx'] at hsx; exact hsx
      have hln : (escL 0 p.rest.data.toList).length ≤ 9223372036854775807 := by
        have := escL_size 0 p.rest
        omega
      clear hre hsx hx hx' h hsz
      have hbb : (bq = true) ∨ (bq = false ∧ bf = true) := by cases bq <;> cases bf <;> simp_all
      clear hm
      rcases hbb with rfl | ⟨rfl, rfl⟩
      all_goals
        go_enter Tryz.func114, Tryz.ntmps114
        go_wp2
        go_quiet (fail)
        go_wp2_with fail
        refine (hsx' _).mono ?_
        rintro e w' ⟨rfl, rfl⟩
        go_wp2_with fail
        refine (esc_at 0 p.rest _ w.heap.size _ (by rfl) rfl (by decide) (by decide) hr).mono ?_
        rintro e w2 ⟨rfl, hb2⟩
        have hB := (below_drewN w _).trans hb2
        obtain ⟨hk2, hz2⟩ := below_cells hB
        go_wp2
        go_end0
        exact ⟨rfl, HE.out _ _ hB HR.out.symm⟩
  · have hre : opqS (bq || bf) p.rest = escS 0 p.rest ++ ⟨#[]⟩ := by unfold opqS; rw [if_neg (fun hh => hm hh.1)]
    have HR := Lib.hid hre
    have hln : (escL 0 p.rest.data.toList).length ≤ 9223372036854775807 := by
      have := escL_size 0 p.rest
      omega
    have hbb : bq = false ∧ bf = false := by cases bq <;> cases bf <;> simp_all
    obtain ⟨rfl, rfl⟩ := hbb
    clear hre hsx hm h hsz
    go_enter Tryz.func114, Tryz.ntmps114
    go_wp2
    go_quiet (fail)
    go_wp2_with fail
    refine (esc_at 0 p.rest _ w.heap.size _ (by rfl) rfl (by decide) (by decide) hr).mono ?_
    rintro e w2 ⟨rfl, hb2⟩
    have hB := (below_drewN w _).trans hb2
    obtain ⟨hk2, hz2⟩ := below_cells hB
    go_wp2
    go_end0
    exact ⟨rfl, HE.out _ _ hB HR.out.symm⟩
end Go.Proofs.YtibgiohijknmbaaGreatDoor
