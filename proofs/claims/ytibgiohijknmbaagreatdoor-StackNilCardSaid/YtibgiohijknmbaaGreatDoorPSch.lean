/-
  parser.schemed where the path is opaque; parser.plain without a base.
-/
import Derived.Test.YtibgiohijknmbaaGreatDoorPOpq
namespace Go.Proofs.YtibgiohijknmbaaGreatDoor
open Go.RowKit
set_option linter.unusedVariables false
set_option linter.unusedSimpArgs false

theorem str_ne {s : ByteArray} {l : List UInt8} (h : s.data.toList ≠ l) : ¬ s = ⟨l.toArray⟩ ∧ ¬ s.toList = l ∧ (s.toList == l) = false := by
  have h1 : ¬ s = ⟨l.toArray⟩ := by intro e; rw [e] at h; exact h rfl
  have h2 : ¬ s.toList = l := by rw [ByteArray.toList_eq]; exact h
  exact ⟨h1, h2, by simpa using h2⟩

theorem prefix2 {s : List UInt8} (h : Lib.hasPrefix s [47] = false) : Lib.hasPrefix s [47, 47] = false := by
  unfold Lib.hasPrefix at *
  cases s with
  | nil => rfl
  | cons a t => simp [List.isPrefixOf] at h ⊢; intro h'; exact absurd h' h

set_option maxRecDepth 100000 in
set_option maxHeartbeats 1000000 in
theorem schemed_opq (p : PSt) (b : Nat) (w : World) (h : ParserAt w b p) (hs : p.sch.size ≤ maxLen) (hr : p.rest.size ≤ 1073741824) (hsp : specialB p.sch.data.toList = false) (hpre : Lib.hasPrefix p.rest.data.toList [47] = false) :
    Calls Tryz.prog 57 #[.pointer (some ⟨b, 0, none⟩)] w fun e w' => e = .returned (.tuple #[]) ∧ ParserAt w' b p.opqd ∧ w.grownBy w' (some b) := by
  have hbw := h.lt
  have c0 : w.cell? ⟨b, 0, none⟩ = some (.string p.sch) := h.cell 0
  have c14 : w.cell? ⟨b, 14, none⟩ = some (.string p.rest) := h.cell 14
  have hnf : p.sch.data.toList ≠ [102, 105, 108, 101] := fun e => by rw [e] at hsp; revert hsp; decide
  obtain ⟨hn1, hn2, hn3⟩ := str_ne hnf
  have hp1 := fun W => Tryz.strings_HasPrefix p.rest ⟨#[47]⟩ W
  have hp2 := fun W => Tryz.strings_HasPrefix p.rest ⟨#[47, 47]⟩ W
  have e1 : (⟨#[47]⟩ : ByteArray).data.toList = [47] := rfl
  have e2 : (⟨#[47, 47]⟩ : ByteArray).data.toList = [47, 47] := rfl
  rw [e1, hpre] at hp1
  rw [e2, prefix2 hpre] at hp2
  have HSP := Lib.hid hsp
  clear e1 e2 hpre hsp hnf
  go_enter Tryz.func57, Tryz.ntmps57
  go_wp2_with fail
  refine (special_c _ _ hs).mono ?_
  rintro e w1 ⟨rfl, hb⟩
  rw [HSP.out]
  obtain ⟨hk1, hz1⟩ := below_cells hb
  go_wp2_with fail
  refine (special_c _ _ hs).mono ?_
  rintro e w2 ⟨rfl, hb2⟩
  rw [HSP.out]
  have hB := hb.trans (hb2.mono hb.size)
  obtain ⟨hk2, hz2⟩ := below_cells hB
  clear hk1 hz1 hb hb2
  go_wp2_with fail
  refine (hp2 _).mono ?_
  rintro e w' ⟨rfl, rfl⟩
  go_wp2_with fail
  refine (hp1 _).mono ?_
  rintro e w' ⟨rfl, rfl⟩
  go_wp2_with fail
  refine (opaque_c p b _ (h.below hB) hr).mono ?_
  rintro e w3 ⟨rfl, hP, hG⟩
  go_wp2
  go_end0
  exact ⟨rfl, hP, (grown_below hB _).trans hG⟩

theorem plain_c (p : PSt) (b : Nat) (w : World) (h : ParserAt w b p) :
    Calls Tryz.prog 58 #[.pointer (some ⟨b, 0, none⟩)] w fun e w' => e = .returned (.tuple #[]) ∧ ParserAt w' b { p with bad := true } ∧ w.grownBy w' (some b) := by
  have hbw := h.lt
  have c13 : w.cell? ⟨b, 13, none⟩ = some (.pointer none) := h.cell 13
  have c17 : w.cell? ⟨b, 17, none⟩ = some (.bool p.bad) := h.cell 17
  have fz := fun j => h.free j
  go_enter Tryz.func58, Tryz.ntmps58
  go_wp2
  go_end0
  exact ⟨rfl, h.set (by simp [PSt.cells]), grown_set (grown_below (Below.refl _ _) _) _ _⟩
end Go.Proofs.YtibgiohijknmbaaGreatDoor
