/-
  utf.Letter, Digit, Hex, Lower: what each call answers.
-/
import Derived.Test.YtibgiohijknmbaaGreatDoorProg
import Derived.Test.YtibgiohijknmbaaGreatDoorBase
namespace Go.Proofs.YtibgiohijknmbaaGreatDoor
open Go.RowKit
set_option linter.unusedVariables false
set_option linter.unusedSimpArgs false

def letterB (c : Int) : Bool := decide ((65 ≤ c ∧ c ≤ 90) ∨ (97 ≤ c ∧ c ≤ 122))
def digitB (c : Int) : Bool := decide (48 ≤ c ∧ c ≤ 57)
def hexI (c : Int) : Int := if 48 ≤ c ∧ c ≤ 57 then c - 48 else if 97 ≤ c ∧ c ≤ 102 then c - 87 else if 65 ≤ c ∧ c ≤ 70 then c - 55 else -1

theorem digitB_true {c : Int} : digitB c = true ↔ 48 ≤ c ∧ c ≤ 57 := by simp [digitB]
theorem digitB_false {c : Int} : digitB c = false ↔ ¬ (48 ≤ c ∧ c ≤ 57) := by unfold digitB; exact decide_eq_false_iff_not

set_option maxHeartbeats 400000 in
theorem digit_c (c : Int) (w : World) :
    Calls Tryz.prog 102 #[.int .u8 c] w fun e w' => e = .returned (.bool (digitB c)) ∧ w = w' := by
  go_enter Tryz.func102, Tryz.ntmps102
  go_wp2
  all_goals (go_ret; refine ⟨ret_b ?_, rfl⟩; unfold digitB)
  all_goals (rw [Bool.eq_iff_iff]; simp; omega)

set_option maxHeartbeats 400000 in
theorem letter_c (c : Int) (w : World) :
    Calls Tryz.prog 101 #[.int .u8 c] w fun e w' => e = .returned (.bool (letterB c)) ∧ w = w' := by
  go_enter Tryz.func101, Tryz.ntmps101
  go_wp2
  all_goals (go_ret; refine ⟨ret_b ?_, rfl⟩; unfold letterB)
  all_goals (rw [Bool.eq_iff_iff]; simp; omega)

set_option maxHeartbeats 400000 in
theorem hex_c (c : Int) (w : World) (h0 : 0 ≤ c) (h1 : c ≤ 255) :
    Calls Tryz.prog 134 #[.int .u8 c] w fun e w' => e = .returned (.int .i64 (hexI c)) ∧ w = w' := by
  go_enter Tryz.func134, Tryz.ntmps134
  go_wp2_with (go_at_call 102; refine (digit_c _ _).mono ?_; rintro e w' ⟨rfl, rfl⟩)
  all_goals (go_ret; refine ⟨ret_i ?_, rfl⟩; simp only [digitB_true, digitB_false] at *; unfold hexI; repeat (first | rw [if_pos (by omega)] | rw [if_neg (by omega)]))
  all_goals omega

/-! Lower -/
def lowerZ (c : Int) : Int := if 65 ≤ c ∧ c ≤ 90 then c + 32 else c
def lowerU (c : UInt8) : UInt8 := if 65 ≤ c ∧ c ≤ 90 then c + 32 else c
def lowerL (s : List UInt8) : List UInt8 := s.map lowerU

def lowVal (s : ByteArray) (k j : Nat) : Int := if j < k then lowerZ (sAt s j) else sAt s j
theorem lowVal_step (s : ByteArray) (k j : Nat) (h : j ≠ k) : lowVal s (k + 1) j = lowVal s k j := by
  unfold lowVal
  by_cases h1 : j < k
  · rw [if_pos h1, if_pos (by omega)]
  · rw [if_neg h1, if_neg (by omega)]

theorem lowerU_toNat (c : UInt8) : ((lowerU c).toNat : Int) = lowerZ (c.toNat : Int) := by
  unfold lowerU lowerZ
  by_cases h : 65 ≤ c ∧ c ≤ 90
  · have h1 := UInt8.le_iff_toNat_le.1 h.1
    have h2 := UInt8.le_iff_toNat_le.1 h.2
    rw [if_pos h, if_pos (by simp at h1 h2; omega), UInt8.toNat_add]
    simp at h1 h2 ⊢
    omega
  · rw [if_neg h, if_neg]
    intro h'
    exact h ⟨UInt8.le_iff_toNat_le.2 (by simp; omega), UInt8.le_iff_toNat_le.2 (by simp; omega)⟩
theorem low_done (s : ByteArray) : strOfNums ((List.range s.size).map (lowVal s s.size)) = ⟨(lowerL s.data.toList).toArray⟩ :=
  strOfNums_map s _ lowerU fun j hj => by
    rw [lowerU_toNat]
    unfold lowVal
    rw [if_pos hj]
    rfl

set_option maxRecDepth 100000 in
set_option maxHeartbeats 400000 in
theorem lower_c (s : ByteArray) (w : World) (hs : s.size ≤ 140737488351232) :
    Calls Tryz.prog 104 #[.string s] w fun e w' => e = .returned (.string ⟨(lowerL s.data.toList).toArray⟩) ∧ Below w.heap.size w w' := by
  have hcv := Lib.run_convert_string_bytes (P := Tryz.prog) w 9 29 5 s Tryz.underlying9 Tryz.underlying29 Tryz.underlying5
  have hcell0 : ∀ j, j < s.size → (Lib.bytesWorld w 5 s).cell? ⟨w.heap.size, j, none⟩ = some (.int .u8 (lowVal s 0 j)) := fun j hj => by
    rw [Lib.bytesWorld_cell w _ s j hj]
    rfl
  have hfz0 := frozen_bytesWorld w 5 s
  have hb0 := below_bytesWorld w 5 s
  generalize Lib.bytesWorld w 5 s = W1 at *
  have HC : Hid (∀ j, j < s.size → W1.cell? ⟨w.heap.size, j, none⟩ = some (.int .u8 (lowVal s 0 j))) := hcell0
  have HF : Hid (∀ j, j < s.size → W1.frozen? ⟨w.heap.size, j, none⟩ = false) := hfz0
  clear hcell0 hfz0
  go_enter Tryz.func104, Tryz.ntmps104
  go_wp2
  clear hcv
  go_loopw [10] (fun i wr => ∃ k : Nat, k ≤ s.size ∧ i = .int .i64 k ∧ Hid (∀ j, j < s.size → wr.cell? ⟨w.heap.size, j, none⟩ = some (.int .u8 (lowVal s k j))) ∧ Hid (∀ j, j < s.size → wr.frozen? ⟨w.heap.size, j, none⟩ = false) ∧ Below w.heap.size w wr) (fun i _ => s.size - (intOf i).toNat)
  case atStart => exact ⟨0, Nat.zero_le _, rfl, HC, HF, hb0⟩
  case round =>
    obtain ⟨k, hk, rfl, hc, hf, hb⟩ := hrel
    clear HC HF hb0
    by_cases hlt : k < s.size
    · have hck := hc.out k hlt
      have hfk := hf.out k hlt
      have hr := sAt_range s k
      have e0 : lowVal s k k = sAt s k := by unfold lowVal; rw [if_neg (by omega)]
      rw [e0] at hck
      clear e0
      go_wp2
      · refine ⟨⟨k + 1, by omega, by go_num, ?_, ?_, hb.setCell (Nat.le_refl _) _⟩, by simp [intOf]; omega⟩
        · intro j hj
          by_cases e : j = k
          · subst e
            rw [World.cell?_setCell_same _ _ _ hck]
            have : lowVal s (j + 1) j = sAt s j + 97 - 65 := by
              unfold lowVal lowerZ
              rw [if_pos (by omega), if_pos (by omega)]
              omega
            rw [this]
          · rw [World.cell?_setCell_other _ _ _ _ (by simp; try omega), lowVal_step s k j e]
            exact hc.out j hj
        · intro j hj
          rw [World.frozen?_setCell]
          exact hf.out j hj
      all_goals
        refine ⟨⟨k + 1, by omega, by go_num, ?_, hf, hb⟩, by simp [intOf]; omega⟩
        intro j hj
        by_cases e : j = k
        · subst e
          have : lowVal s (j + 1) j = sAt s j := by
            unfold lowVal lowerZ
            rw [if_pos (by omega), if_neg (by omega)]
          rw [this]
          exact hck
        · rw [lowVal_step s k j e]
          exact hc.out j hj
    · obtain rfl : k = s.size := by omega
      have hcv2 := fun cap => run_convert_bytes_arg (P := Tryz.prog) wr 29 5 Tryz.underlying29 Tryz.underlying5 w.heap.size 0 s.size cap ((List.range s.size).map (lowVal s s.size)) (by simp) (fun i hi => by
        rw [Nat.zero_add, hc.out i hi]
        simp [hi]) 9 Tryz.underlying9
      go_wp2
      go_ret
      exact ⟨ret_s (low_done s), hb⟩
end Go.Proofs.YtibgiohijknmbaaGreatDoor
