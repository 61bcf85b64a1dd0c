/-
  Joined texts: Utf, First, Decode, Encode.
-/
import Derived.Test.YtibgiohijknmbaaGreatDoorProg
import Derived.Test.YtibgiohijknmbaaGreatDoorM1
import Derived.Test.YtibgiohijknmbaaGreatDoorShelfD
import Derived.Deep.LoopGhost
import Derived.Test.YtibgiohijknmbaaGreatDoorShelf
import Derived.Lib.RuneBytes
/-
  utf.Letter, Digit, Hex, Lower: what each call answers.
-/
namespace Go.Proofs.YtibgiohijknmbaaGreatDoor
open Go.RowKit
set_option linter.unusedVariables false
set_option linter.unusedSimpArgs false

def letterB (c : Int) : Bool := decide ((65 ≤ c ∧ c ≤ 90) ∨ (97 ≤ c ∧ c ≤ 122))
def digitB (c : Int) : Bool := decide (48 ≤ c ∧ c ≤ 57)
def hexI (c : Int) : Int := if 48 ≤ c ∧ c ≤ 57 then c - 48 else if 97 ≤ c ∧ c ≤ 102 then c - 87 else if 65 ≤ c ∧ c ≤ 70 then c - 55 else -1

theorem digitB_true {c : Int} : digitB c = true ↔ 48 ≤ c ∧ c ≤ 57 := by simp [digitB]
theorem digitB_false {c : Int} : digitB c = false ↔ ¬ (48 ≤ c ∧ c ≤ 57) := by unfold digitB; exact decide_eq_false_iff_not

set_option maxHeartbeats 400000 in
theorem digit_c (c : Int) (w : World) :
    Calls Tryz.prog 102 #[.int .u8 c] w fun e w' => e = .returned (.bool (digitB c)) ∧ w = w' := by
  go_enter Tryz.func102, Tryz.ntmps102
  go_wp2
  all_goals (go_ret; refine ⟨ret_b ?_, rfl⟩; unfold digitB)
  all_goals (rw [Bool.eq_iff_iff]; simp; omega)

set_option maxHeartbeats 400000 in
theorem letter_c (c : Int) (w : World) :
    Calls Tryz.prog 101 #[.int .u8 c] w fun e w' => e = .returned (.bool (letterB c)) ∧ w = w' := by
  go_enter Tryz.func101, Tryz.ntmps101
  go_wp2
  all_goals (go_ret; refine ⟨ret_b ?_, rfl⟩; unfold letterB)
  all_goals (rw [Bool.eq_iff_iff]; simp; omega)

set_option maxHeartbeats 400000 in
theorem hex_c (c : Int) (w : World) (h0 : 0 ≤ c) (h1 : c ≤ 255) :
    Calls Tryz.prog 134 #[.int .u8 c] w fun e w' => e = .returned (.int .i64 (hexI c)) ∧ w = w' := by
  go_enter Tryz.func134, Tryz.ntmps134
  go_wp2_with (go_at_call 102; refine (digit_c _ _).mono ?_; rintro e w' ⟨rfl, rfl⟩)
  all_goals (go_ret; refine ⟨ret_i ?_, rfl⟩; simp only [digitB_true, digitB_false] at *; unfold hexI; repeat (first | rw [if_pos (by omega)] | rw [if_neg (by omega)]))
  all_goals omega

/-! Lower -/
def lowerZ (c : Int) : Int := if 65 ≤ c ∧ c ≤ 90 then c + 32 else c
def lowerU (c : UInt8) : UInt8 := if 65 ≤ c ∧ c ≤ 90 then c + 32 else c
def lowerL (s : List UInt8) : List UInt8 := s.map lowerU

def lowVal (s : ByteArray) (k j : Nat) : Int := if j < k then lowerZ (sAt s j) else sAt s j
theorem lowVal_step (s : ByteArray) (k j : Nat) (h : j ≠ k) : lowVal s (k + 1) j = lowVal s k j := by
  unfold lowVal
  by_cases h1 : j < k
  · rw [if_pos h1, if_pos (by omega)]
  · rw [if_neg h1, if_neg (by omega)]

theorem lowerU_toNat (c : UInt8) : ((lowerU c).toNat : Int) = lowerZ (c.toNat : Int) := by
  unfold lowerU lowerZ
  by_cases h : 65 ≤ c ∧ c ≤ 90
  · have h1 := UInt8.le_iff_toNat_le.1 h.1
    have h2 := UInt8.le_iff_toNat_le.1 h.2
    rw [if_pos h, if_pos (by simp at h1 h2; omega), UInt8.toNat_add]
    simp at h1 h2 ⊢
    omega
  · rw [if_neg h, if_neg]
    intro h'
    exact h ⟨UInt8.le_iff_toNat_le.2 (by simp; omega), UInt8.le_iff_toNat_le.2 (by simp; omega)⟩
theorem low_done (s : ByteArray) : strOfNums ((List.range s.size).map (lowVal s s.size)) = ⟨(lowerL s.data.toList).toArray⟩ :=
  strOfNums_map s _ lowerU fun j hj => by
    rw [lowerU_toNat]
    unfold lowVal
    rw [if_pos hj]
    rfl

set_option maxRecDepth 100000 in
set_option maxHeartbeats 400000 in
theorem lower_c (s : ByteArray) (w : World) (hs : s.size ≤ 140737488351232) :
    Calls Tryz.prog 104 #[.string s] w fun e w' => e = .returned (.string ⟨(lowerL s.data.toList).toArray⟩) ∧ Below w.heap.size w w' := by
  have hcv := Lib.run_convert_string_bytes (P := Tryz.prog) w 9 29 5 s Tryz.underlying9 Tryz.underlying29 Tryz.underlying5
  have hcell0 : ∀ j, j < s.size → (Lib.bytesWorld w 5 s).cell? ⟨w.heap.size, j, none⟩ = some (.int .u8 (lowVal s 0 j)) := fun j hj => by
    rw [Lib.bytesWorld_cell w _ s j hj]
    rfl
  have hfz0 := frozen_bytesWorld w 5 s
  have hb0 := below_bytesWorld w 5 s
  generalize Lib.bytesWorld w 5 s = W1 at *
  have HC : Hid (∀ j, j < s.size → W1.cell? ⟨w.heap.size, j, none⟩ = some (.int .u8 (lowVal s 0 j))) := hcell0
  have HF : Hid (∀ j, j < s.size → W1.frozen? ⟨w.heap.size, j, none⟩ = false) := hfz0
  clear hcell0 hfz0
  go_enter Tryz.func104, Tryz.ntmps104
  go_wp2
  clear hcv
  go_loopw [10] (fun i wr => ∃ k : Nat, k ≤ s.size ∧ i = .int .i64 k ∧ Hid (∀ j, j < s.size → wr.cell? ⟨w.heap.size, j, none⟩ = some (.int .u8 (lowVal s k j))) ∧ Hid (∀ j, j < s.size → wr.frozen? ⟨w.heap.size, j, none⟩ = false) ∧ Below w.heap.size w wr) (fun i _ => s.size - (intOf i).toNat)
  case atStart => exact ⟨0, Nat.zero_le _, rfl, HC, HF, hb0⟩
  case round =>
    obtain ⟨k, hk, rfl, hc, hf, hb⟩ := hrel
    clear HC HF hb0
    by_cases hlt : k < s.size
    · have hck := hc.out k hlt
      have hfk := hf.out k hlt
      have hr := sAt_range s k
      have e0 : lowVal s k k = sAt s k := by unfold lowVal; rw [if_neg (by omega)]
      rw [e0] at hck
      clear e0
      go_wp2
      · refine ⟨⟨k + 1, by omega, by go_num, ?_, ?_, hb.setCell (Nat.le_refl _) _⟩, by simp [intOf]; omega⟩
        · intro j hj
          by_cases e : j = k
          · subst e
            rw [World.cell?_setCell_same _ _ _ hck]
            have : lowVal s (j + 1) j = sAt s j + 97 - 65 := by
              unfold lowVal lowerZ
              rw [if_pos (by omega), if_pos (by omega)]
              omega
            rw [this]
          · rw [World.cell?_setCell_other _ _ _ _ (by simp; try omega), lowVal_step s k j e]
            exact hc.out j hj
        · intro j hj
          rw [World.frozen?_setCell]
          exact hf.out j hj
      all_goals
        refine ⟨⟨k + 1, by omega, by go_num, ?_, hf, hb⟩, by simp [intOf]; omega⟩
        intro j hj
        by_cases e : j = k
        · subst e
          have : lowVal s (j + 1) j = sAt s j := by
            unfold lowVal lowerZ
            rw [if_pos (by omega), if_neg (by omega)]
          rw [this]
          exact hck
        · rw [lowVal_step s k j e]
          exact hc.out j hj
    · obtain rfl : k = s.size := by omega
      have hcv2 := fun cap => run_convert_bytes_arg (P := Tryz.prog) wr 29 5 Tryz.underlying29 Tryz.underlying5 w.heap.size 0 s.size cap ((List.range s.size).map (lowVal s s.size)) (by simp) (fun i hi => by
        rw [Nat.zero_add, hc.out i hi]
        simp [hi]) 9 Tryz.underlying9
      go_wp2
      go_ret
      exact ⟨ret_s (low_done s), hb⟩
end Go.Proofs.YtibgiohijknmbaaGreatDoor

/-
  utf.span, utf.first: the first character of bytes, and how many bytes are read for it.
-/
namespace Go.Proofs.YtibgiohijknmbaaGreatDoor
open Go.RowKit
set_option linter.unusedVariables false
set_option linter.unusedSimpArgs false

def spanF (b : Int) : Int × Int × Int :=
  if 194 ≤ b ∧ b ≤ 223 then (128, 191, 2) else if b = 224 then (160, 191, 3) else if b = 237 then (128, 159, 3) else if 225 ≤ b ∧ b ≤ 239 then (128, 191, 3)
  else if b = 240 then (144, 191, 4) else if 241 ≤ b ∧ b ≤ 243 then (128, 191, 4) else if b = 244 then (128, 143, 4) else (0, 0, 0)

set_option maxHeartbeats 1000000 in
theorem span_c (c : Int) (w : World) :
    Calls Tryz.prog 213 #[.int .u8 c] w fun e w' => e = .returned (.tuple #[.int .u8 (spanF c).1, .int .u8 (spanF c).2.1, .int .i64 (spanF c).2.2]) ∧ w = w' := by
  by_cases h1 : 194 ≤ c ∧ c ≤ 223
  · have e : spanF c = (128, 191, 2) := by simp [spanF, h1]
    rw [e]; clear e
    obtain ⟨h1, h2⟩ := h1
    go_enter Tryz.func213, Tryz.ntmps213
    go_wp2
    go_ret3
    exact ⟨rfl, rfl⟩
  by_cases h2 : c = 224
  · subst h2
    go_enter Tryz.func213, Tryz.ntmps213
    go_wp2
    go_ret3
    exact ⟨rfl, rfl⟩
  by_cases h3 : c = 237
  · subst h3
    go_enter Tryz.func213, Tryz.ntmps213
    go_wp2
    go_ret3
    exact ⟨rfl, rfl⟩
  have b2 : (c == 224) = false := by simpa using h2
  have b3 : (c == 237) = false := by simpa using h3
  by_cases h4 : 225 ≤ c ∧ c ≤ 239
  · have e : spanF c = (128, 191, 3) := by simp [spanF, h1, h2, h3, h4]
    rw [e]; clear e
    have h5 : 194 ≤ c := by omega
    have h6 : 223 < c := by omega
    obtain ⟨h7, h8⟩ := h4
    clear h1
    go_enter Tryz.func213, Tryz.ntmps213
    go_wp2
    go_ret3
    exact ⟨rfl, rfl⟩
  by_cases h5 : c = 240
  · subst h5
    go_enter Tryz.func213, Tryz.ntmps213
    go_wp2
    go_ret3
    exact ⟨rfl, rfl⟩
  have b5 : (c == 240) = false := by simpa using h5
  by_cases h6 : 241 ≤ c ∧ c ≤ 243
  · have e : spanF c = (128, 191, 4) := by simp [spanF, h1, h2, h3, h4, h5, h6]
    rw [e]; clear e
    have h7 : 194 ≤ c := by omega
    have h8 : 223 < c := by omega
    have h9 : 239 < c := by omega
    obtain ⟨h10, h11⟩ := h6
    clear h1 h4
    go_enter Tryz.func213, Tryz.ntmps213
    go_wp2
    go_ret3
    exact ⟨rfl, rfl⟩
  by_cases h7 : c = 244
  · subst h7
    go_enter Tryz.func213, Tryz.ntmps213
    go_wp2
    go_ret3
    exact ⟨rfl, rfl⟩
  have b7 : (c == 244) = false := by simpa using h7
  have e : spanF c = (0, 0, 0) := by simp [spanF, h1, h2, h3, h4, h5, h6, h7]
  rw [e]; clear e
  by_cases hlo : c < 194
  · clear h1 h4 h6
    have h8 : c < 225 := by omega
    have h9 : c < 241 := by omega
    go_enter Tryz.func213, Tryz.ntmps213
    go_wp2
    go_ret3
    exact ⟨rfl, rfl⟩
  · have h8 : 243 < c := by omega
    clear h1 h4 h6
    go_enter Tryz.func213, Tryz.ntmps213
    go_wp2
    go_ret3
    exact ⟨rfl, rfl⟩

/-- How many bytes are read: the loop of utf.first, from n bytes on. -/
def scanF (lo hi : Int) (many : Int) (n : Nat) : List UInt8 → Nat
  | [] => n
  | c :: t => if (n : Int) < many ∧ lo ≤ (c.toNat : Int) ∧ (c.toNat : Int) ≤ hi then scanF 128 191 many (n + 1) t else n
def firstN (l : List UInt8) : Nat := scanF (spanF ((l.getD 0 0).toNat : Int)).1 (spanF ((l.getD 0 0).toNat : Int)).2.1 (spanF ((l.getD 0 0).toNat : Int)).2.2 1 (l.drop 1)
def firstF (l : List UInt8) : Int × Nat :=
  if (l.getD 0 0).toNat < 128 then (((l.getD 0 0).toNat : Int), 1)
  else if (spanF ((l.getD 0 0).toNat : Int)).2.2 = 0 ∨ (firstN l : Int) < (spanF ((l.getD 0 0).toNat : Int)).2.2 then (65533, firstN l)
  else (((Lib.decodeGo ⟨(l.take (firstN l)).toArray⟩).1 : Int), firstN l)

theorem spanF_many (c : Int) : 0 ≤ (spanF c).2.2 ∧ (spanF c).2.2 ≤ 4 := by unfold spanF; (repeat' split) <;> simp
theorem spanF_lo (c : Int) : 0 ≤ (spanF c).1 ∧ (spanF c).1 ≤ 255 := by unfold spanF; (repeat' split) <;> simp
theorem spanF_hi (c : Int) : 0 ≤ (spanF c).2.1 ∧ (spanF c).2.1 ≤ 255 := by unfold spanF; (repeat' split) <;> simp
theorem scanF_le (lo hi many : Int) (l : List UInt8) : ∀ n, n ≤ scanF lo hi many n l ∧ scanF lo hi many n l ≤ n + l.length := by
  induction l generalizing lo hi with
  | nil => intro n; simp [scanF]
  | cons c t ih =>
    intro n
    unfold scanF
    split
    · have := ih 128 191 (n + 1)
      simp only [List.length_cons]
      omega
    · simp only [List.length_cons]; omega
theorem scanF_many (lo hi many : Int) (l : List UInt8) : ∀ n : Nat, ((scanF lo hi many n l : Nat) : Int) ≤ max (n : Int) many := by
  induction l generalizing lo hi with
  | nil => intro n; simp only [scanF]; omega
  | cons c t ih =>
    intro n
    unfold scanF
    split
    · rename_i h
      have := ih 128 191 (n + 1)
      omega
    · omega
theorem firstN_range (l : List UInt8) (h : l ≠ []) : 1 ≤ firstN l ∧ firstN l ≤ l.length ∧ firstN l ≤ 4 := by
  have h1 := scanF_le (spanF ((l.getD 0 0).toNat : Int)).1 (spanF ((l.getD 0 0).toNat : Int)).2.1 (spanF ((l.getD 0 0).toNat : Int)).2.2 (l.drop 1) 1
  have h2 := scanF_many (spanF ((l.getD 0 0).toNat : Int)).1 (spanF ((l.getD 0 0).toNat : Int)).2.1 (spanF ((l.getD 0 0).toNat : Int)).2.2 (l.drop 1) 1
  have h3 := (spanF_many ((l.getD 0 0).toNat : Int)).2
  have h4 : 0 < l.length := by cases l with | nil => exact absurd rfl h | cons _ _ => simp
  simp only [List.length_drop] at h1
  unfold firstN
  omega
theorem take_get (l : List UInt8) (k j : Nat) (hj : j < k) (hk : k ≤ l.length) : ((⟨(l.take k).toArray⟩ : ByteArray).get! j).toNat = (l.getD j 0).toNat := by
  show ((l.take k).toArray[j]!).toNat = _
  rw [List.getElem!_toArray, getElem!_pos _ j (by rw [List.length_take]; omega), List.getElem_take, List.getD_eq_getElem?_getD, List.getElem?_eq_getElem (by omega)]
  rfl
theorem decode_take (l : List UInt8) (b off cap k : Nat) (w : World) (hT : Lib.Utf8Tabs 1 2 w) (hk : k ≤ l.length) (hb : BytesAt w b off l) :
    Calls Tryz.prog 214 #[.slice (some ⟨b, off, none⟩) k cap] w fun e w' => e = .returned (.tuple #[.int .i32 (Lib.decodeGo ⟨(l.take k).toArray⟩).1, .int .i64 (Lib.decodeGo ⟨(l.take k).toArray⟩).2]) ∧ Below w.heap.size w w' := by
  have hs : (⟨(l.take k).toArray⟩ : ByteArray).size = k := by
    show (l.take k).toArray.size = k
    rw [List.size_toArray, List.length_take]
    omega
  have h := Tryz.utf8_DecodeRune ⟨(l.take k).toArray⟩ b off cap w hT (fun j hj => by
    rw [hs] at hj
    rw [take_get l k j hj hk]
    exact hb j (by omega))
  rw [hs] at h
  exact h

set_option maxRecDepth 100000 in
set_option maxHeartbeats 1000000 in
theorem first_c (l : List UInt8) (b off cap : Nat) (w : World) (hT : Lib.Utf8Tabs 1 2 w) (h0 : l ≠ []) (hl : l.length ≤ cap) (hcap : cap ≤ 9223372036854775807) (hb : BytesAt w b off l) :
    Calls Tryz.prog 154 #[.slice (some ⟨b, off, none⟩) l.length cap] w fun e w' => e = .returned (.tuple #[.int .i32 (firstF l).1, .int .i64 (firstF l).2]) ∧ Below w.heap.size w w' := by
  have hlen : 0 < l.length := by cases l with | nil => exact absurd rfl h0 | cons _ _ => simp
  have hc0 : w.cell? ⟨b, off, none⟩ = some (.int .u8 ((l.getD 0 0).toNat : Int)) := hb 0 hlen
  have hx := (l.getD 0 0).toNat_lt
  obtain ⟨x, hxe⟩ : ∃ x : Nat, (l.getD 0 0).toNat = x := ⟨_, rfl⟩
  rw [hxe] at hc0 hx
  have hlp : (0 : Int) < (l.length : Int) := by omega
  by_cases ha : (x : Int) < 128
  · have e : firstF l = ((x : Int), 1) := by unfold firstF; rw [hxe, if_pos (by omega)]
    rw [e]
    clear e hxe hb hT
    go_enter Tryz.func154, Tryz.ntmps154
    go_wp2
    go_ret2
    exact ⟨rfl, Below.refl _ _⟩
  · have hr := firstN_range l h0
    have hs1 := spanF_many (x : Int)
    have hs2 := spanF_lo (x : Int)
    have hs3 := spanF_hi (x : Int)
    obtain ⟨R, hR⟩ : ∃ R, firstN l = R := ⟨_, rfl⟩
    have HR : Hid (scanF (spanF (x : Int)).1 (spanF (x : Int)).2.1 (spanF (x : Int)).2.2 1 (l.drop 1) = R) := by rw [← hR]; unfold firstN; rw [hxe]; rfl
    have HE : Hid (firstF l = if (spanF (x : Int)).2.2 = 0 ∨ (R : Int) < (spanF (x : Int)).2.2 then (65533, R) else (((Lib.decodeGo ⟨(l.take R).toArray⟩).1 : Int), R)) := by
      show _ = _
      unfold firstF
      rw [hxe, if_neg (by omega), hR]
    rw [hR] at hr
    have HX : Hid ((l.getD 0 0).toNat = x) := hxe
    have HB : Hid (BytesAt w b off l) := hb
    have HT : Hid (Lib.Utf8Tabs 1 2 w) := hT
    clear hxe hR hb hT
    go_enter Tryz.func154, Tryz.ntmps154
    go_wp2_with (go_at_call 213; refine (span_c _ _).mono ?_; rintro e w' ⟨rfl, rfl⟩)
    generalize (spanF (x : Int)).1 = lo0 at *
    generalize (spanF (x : Int)).2.1 = hi0 at *
    generalize (spanF (x : Int)).2.2 = mn at *
    go_loop [4, 5, 7] (fun lo hi n => ∃ (k : Nat) (a c : Int), 1 ≤ k ∧ k ≤ l.length ∧ (k : Int) ≤ 4 ∧ 0 ≤ a ∧ a ≤ 255 ∧ 0 ≤ c ∧ c ≤ 255 ∧ lo = .int .u8 a ∧ hi = .int .u8 c ∧ n = .int .i64 k ∧ Hid (scanF a c mn k (l.drop k) = R)) (fun _ _ n => l.length - (intOf n).toNat)
    case atStart => exact ⟨1, lo0, hi0, by omega, by omega, by omega, by omega, by omega, by omega, by omega, rfl, rfl, rfl, HR⟩
    case round =>
      obtain ⟨k, a, c, hk1, hk2, hk3, ha1, ha2, hc1, hc2, rfl, rfl, rfl, hsc⟩ := hrel
      have cD := fun hw => decode_take l b off cap k w HT.out hw HB.out
      by_cases hkl : k < l.length
      · have hck := HB.out k hkl
        have hdrop : l.drop k = l.getD k 0 :: l.drop (k + 1) := by
          rw [List.drop_eq_getElem_cons hkl, List.getD_eq_getElem?_getD, List.getElem?_eq_getElem hkl]
          rfl
        have hy := (l.getD k 0).toNat_lt
        have HS : Hid ((if (k : Int) < mn ∧ a ≤ ((l.getD k 0).toNat : Int) ∧ ((l.getD k 0).toNat : Int) ≤ c then scanF 128 191 mn (k + 1) (l.drop (k + 1)) else k) = R) := by
          have := hsc.out
          rw [hdrop] at this
          exact this
        clear hdrop hsc
        generalize (l.getD k 0).toNat = y at *
        have hkl' : (k : Int) < (l.length : Int) := by omega
        go_wp2_with (go_at_call 214; refine (cD (by omega)).mono ?_; rintro e w' ⟨rfl, hbw⟩)
        all_goals first
          | (refine ⟨⟨k + 1, 128, 191, by omega, by omega, by omega, by omega, by omega, by omega, by omega, rfl, rfl, by go_num, ?_⟩, by simp [intOf]; omega⟩
             have h := HS.out
             rw [if_pos ⟨by omega, by omega, by omega⟩] at h
             exact h)
          | (have h := HS.out
             rw [if_neg (by omega)] at h
             subst h
             go_ret2
             rw [HE.out]
             first
              | (rw [if_pos (by omega)]; exact ⟨rfl, Below.refl _ _⟩)
              | (rw [if_neg (by omega)]; exact ⟨rfl, by assumption⟩))
      · obtain rfl : k = l.length := by omega
        have h := hsc.out
        rw [List.drop_length] at h
        simp only [scanF] at h
        subst h
        have hkl' : ¬ ((l.length : Int) < (l.length : Int)) := by omega
        clear hsc
        go_wp2_with (go_at_call 214; refine (cD (by omega)).mono ?_; rintro e w' ⟨rfl, hbw⟩)
        all_goals
          go_ret2
          rw [HE.out]
          first
            | (rw [if_pos (by omega)]; exact ⟨rfl, Below.refl _ _⟩)
            | (rw [if_neg (by omega), List.take_length]; exact ⟨rfl, by assumption⟩)
end Go.Proofs.YtibgiohijknmbaaGreatDoor

/-
  utf.Decode: bytes' characters.
-/
namespace Go.Proofs.YtibgiohijknmbaaGreatDoor
open Go.RowKit
set_option linter.unusedVariables false
set_option linter.unusedSimpArgs false

def decG : Nat → List UInt8 → List Int
  | 0, _ => []
  | f + 1, l => if l = [] then [] else (firstF l).1 :: decG f (l.drop (firstF l).2)
def decF (l : List UInt8) : List Int := decG l.length l
theorem firstF_range (l : List UInt8) (h : l ≠ []) : 1 ≤ (firstF l).2 ∧ (firstF l).2 ≤ l.length := by
  have h1 := firstN_range l h
  have h4 : 0 < l.length := by cases l with | nil => exact absurd rfl h | cons _ _ => simp
  unfold firstF
  (repeat' split) <;> simp <;> omega
theorem decG_fuel (f g : Nat) (l : List UInt8) (hf : l.length ≤ f) (hg : l.length ≤ g) : decG f l = decG g l := by
  induction f generalizing g l with
  | zero =>
    have : l = [] := by cases l with | nil => rfl | cons _ _ => simp at hf
    subst this
    cases g <;> simp [decG]
  | succ f ih =>
    by_cases h : l = []
    · subst h
      cases g <;> simp [decG]
    · have h1 := firstF_range l h
      cases g with
      | zero => exact absurd (List.length_eq_zero_iff.1 (by omega)) h
      | succ g =>
        simp only [decG, if_neg h]
        rw [ih g _ (by rw [List.length_drop]; omega) (by rw [List.length_drop]; omega)]
theorem decF_nil : decF [] = [] := rfl
theorem decF_cons (l : List UInt8) (h : l ≠ []) : decF l = (firstF l).1 :: decF (l.drop (firstF l).2) := by
  have h4 : 0 < l.length := by cases l with | nil => exact absurd rfl h | cons _ _ => simp
  have h1 := firstF_range l h
  unfold decF
  obtain ⟨n, hn⟩ : ∃ n, l.length = n + 1 := ⟨l.length - 1, by omega⟩
  rw [hn]
  simp only [decG, if_neg h]
  rw [decG_fuel n _ _ (by rw [List.length_drop]; omega) (Nat.le_refl _)]
theorem decF_length (l : List UInt8) : (decF l).length ≤ l.length := by
  obtain ⟨n, hn⟩ : ∃ n, l.length = n := ⟨_, rfl⟩
  induction n using Nat.strongRecOn generalizing l with
  | ind n ih =>
    by_cases h : l = []
    · subst h; simp [decF_nil]
    · have h1 := firstF_range l h
      rw [decF_cons l h, List.length_cons]
      have := ih (l.drop (firstF l).2).length (by rw [List.length_drop]; omega) _ rfl
      rw [List.length_drop] at this
      omega
theorem rinfo : (Tryz.prog.info? 21).map (fun i => (i.zero, i.size, i.bytes)) = some (some (.int .i32 0), 1, 4) := by kernel_rfl
def runes (ds : List Int) : List Value := ds.map (Value.int .i32)

set_option maxRecDepth 100000 in
set_option maxHeartbeats 1000000 in
theorem decode_c (l : List UInt8) (b off cap : Nat) (w : World) (hT : Lib.Utf8Tabs 1 2 w) (hl : l.length ≤ cap) (hlen : l.length ≤ 4294967296) (hcap : cap ≤ 9223372036854775807) (hb : BytesAt w b off l) (hbw : b < w.heap.size) :
    Calls Tryz.prog 95 #[.slice (some ⟨b, off, none⟩) l.length cap] w fun e w' => ∃ v, e = .returned v ∧ w'.ownsRow w.heap.size 21 1 v (decF l).length (runes (decF l)) ∧ Below w.heap.size w w' := by
  obtain ⟨i0, hi, hz0, hz1, hz2⟩ := info_parts rinfo
  go_enter Tryz.func95, Tryz.ntmps95
  go_wp2
  go_loopw [0, 3] (fun s out wr => ∃ (m : List UInt8) (o c : Nat) (ds : List Int), s = .slice (some ⟨b, o, none⟩) m.length c ∧ m.length ≤ c ∧ c ≤ cap ∧ BytesAt w b o m ∧ m.length + ds.length ≤ l.length ∧ Hid (ds ++ decF m = decF l) ∧ wr.ownsRow w.heap.size 21 1 out ds.length (runes ds) ∧ Below w.heap.size w wr) (fun s _ _ => lenOf s)
  case atStart => exact ⟨l, off, cap, [], rfl, hl, Nat.le_refl _, hb, by simp, rfl, ⟨by simp [runes], .inl ⟨rfl, rfl⟩⟩, Below.refl _ _⟩
  case round =>
    obtain ⟨m, o, c, ds, rfl, hmc, hcc, hbm, hml, hds, hown, hbl⟩ := hrel
    by_cases hm : m = []
    · subst hm
      have h := hds.out
      rw [decF_nil, List.append_nil] at h
      subst h
      go_wp2
      go_ret
      exact ⟨_, rfl, hown, hbl⟩
    · have hpos : 0 < m.length := by cases m with | nil => exact absurd rfl hm | cons _ _ => simp
      have hfr := firstF_range m hm
      have hdl := decF_length m
      have HD : Hid (decF m = (firstF m).1 :: decF (m.drop (firstF m).2)) := decF_cons m hm
      have hdrop : (m.drop (firstF m).2).length = m.length - (firstF m).2 := List.length_drop
      go_wp2_with (go_at_call 154; refine (first_c m b o c wr (Utf8Tabs_below hT hbl) hm hmc (by omega) (hbm.below hbl hbw)).mono ?_)
      rintro e w1 ⟨rfl, hb1⟩
      have hown1 := own_later hown hb1
      have hbl1 := below_from hbl hbl.size hb1
      have hbm1 := hbm.drop (firstF m).2
      obtain ⟨q, hq⟩ : ∃ q, (firstF m).2 = q := ⟨_, rfl⟩
      obtain ⟨r, hr⟩ : ∃ r, (firstF m).1 = r := ⟨_, rfl⟩
      rw [hq] at hfr hbm1 hdrop HD ⊢
      rw [hr] at HD ⊢
      clear hq hr hown hbl hbm hb1
      have hz := hbl1.size
      go_wp2_with (at_builtin; refine wpList_append_own _ rfl _ _ 168 rfl w.heap.size 21 i0 (.int .i32 0) 1 4 Tryz.underlying168 hi hz0 hz1 hz2 rfl (by decide) _ _ _ rfl (hown1.alloc _) ⟨w1.heap.size, 0, none⟩ 1 1 [.int .i32 r] rfl rfl ?c1 ?c2 ?c3 ?c4 ?c5 ?_)
      case c1 =>
        intro j u hj
        match j, hj with
        | 0, hj => simp at hj; subst hj; simp [Addr.add]
      case c2 => intro u hu; simp at hu; subst hu; rfl
      case c3 => unfold maxLen; omega
      case c4 => omega
      case c5 => simp; omega
      intro v' w2 hown2 hgrow _
      have hbl2 : Below w.heap.size w w2 := (hbl1.alloc (by omega) _).grown hgrow (by simp; omega) (fun k hk => (hown1.lt k hk).1)
      have hv : ∃ g k, v' = .slice (some ⟨g, 0, none⟩) (ds.length + 1) k := by
        rcases hown2.2 with ⟨_, h0⟩ | ⟨g, k, cur, hv, _⟩
        · omega
        · exact ⟨g, k, hv⟩
      obtain ⟨g, kk, rfl⟩ := hv
      have hds2 : Hid ((ds ++ [r]) ++ decF (m.drop q) = decF l) := by
        show _ = _
        rw [← hds.out, HD.out, List.append_assoc]
        rfl
      have hown3 : w2.ownsRow w.heap.size 21 1 (.slice (some ⟨g, 0, none⟩) (ds.length + 1) kk) (ds ++ [r]).length (runes (ds ++ [r])) := by
        have e1 : (ds ++ [r]).length = ds.length + 1 := by simp
        have e2 : runes (ds ++ [r]) = runes ds ++ [.int .i32 r] := by simp [runes]
        rw [e1, e2]
        exact hown2
      clear hown2 hds HD hown1 hgrow
      by_cases hcq : c = q
      · subst hcq
        go_wp2
        refine ⟨⟨m.drop c, o, 0, ds ++ [r], ?_, by omega, by omega, ?_, by simp only [List.length_append, List.length_singleton]; omega, hds2, hown3, hbl2⟩, ?_⟩
        · rw [hdrop, show m.length - c = 0 by omega]
        · intro j hj
          omega
        · simp only [lenOf]; omega
      · go_wp2
        refine ⟨⟨m.drop q, o + q, c - q, ds ++ [r], ?_, by omega, by omega, hbm1, by simp only [List.length_append, List.length_singleton]; omega, hds2, hown3, hbl2⟩, ?_⟩
        · rw [hdrop]
        · simp only [lenOf]; omega
end Go.Proofs.YtibgiohijknmbaaGreatDoor

/-
  utf.Encode: characters' bytes.
-/
namespace Go.Proofs.YtibgiohijknmbaaGreatDoor
open Go.RowKit
set_option linter.unusedVariables false
set_option linter.unusedSimpArgs false

/-- A value that is a slice of runes. -/
def RunesAt (w : World) (v : Value) (ds : List Int) : Prop :=
  ∃ a c, v = .slice a ds.length c ∧ ds.length ≤ c ∧ (0 < ds.length → ∃ g, a = some ⟨g, 0, none⟩ ∧ g < w.heap.size ∧ ∀ j, j < ds.length → w.cell? ⟨g, j, none⟩ = some (.int .i32 (ds.getD j 0)))
theorem runes_of_own {w : World} {base : Nat} {e : TypeId} {v : Value} {ds : List Int} (h : w.ownsRow base e 1 v ds.length (runes ds)) : RunesAt w v ds := by
  rcases h.2 with ⟨rfl, h0⟩ | ⟨g, cap, cur, rfl, hb, hh, hn, hm, hs, ht⟩
  · exact ⟨none, 0, by rw [h0], by omega, fun hp => absurd hp (by omega)⟩
  · refine ⟨_, cap, rfl, hn, fun hp => ⟨g, rfl, (h.lt g rfl).2, fun j hj => ?_⟩⟩
    have := h.cells (g := g) rfl j (.int .i32 (ds.getD j 0)) (by simp [runes, List.getD_eq_getElem?_getD, List.getElem?_eq_getElem hj])
    rwa [addr_add0] at this
def runeB (r : Int) : List UInt8 := Lib.encodeRune r
def encF (ds : List Int) : List UInt8 := ds.flatMap runeB
theorem encF_snoc (ds : List Int) (r : Int) : encF (ds ++ [r]) = encF ds ++ runeB r := by simp [encF]
def byteV (l : List UInt8) : List Value := l.map fun b => .int .u8 (b.toNat : Int)
theorem encodeRuneZ_range (r : Int) : ∀ x ∈ Lib.encodeRuneZ r, 0 ≤ x ∧ x ≤ 255 := by
  unfold Lib.encodeRuneZ
  (repeat' split) <;> simp <;> omega
theorem encodeRuneZ_length (r : Int) : 1 ≤ (Lib.encodeRuneZ r).length ∧ (Lib.encodeRuneZ r).length ≤ 4 := by
  unfold Lib.encodeRuneZ
  (repeat' split) <;> simp
theorem runeCells_eq (r : Int) : Lib.runeCells r = byteV (runeB r) := by
  unfold Lib.runeCells byteV runeB Lib.encodeRune
  rw [List.map_map]
  refine List.map_congr_left fun x hx => ?_
  have := encodeRuneZ_range r x hx
  simp only [Function.comp]
  congr 1
  simp
  omega
theorem runeB_length (r : Int) : 1 ≤ (runeB r).length ∧ (runeB r).length ≤ 4 := by
  have := encodeRuneZ_length r
  unfold runeB Lib.encodeRune
  rw [List.length_map]
  exact this
theorem encF_length (ds : List Int) : (encF ds).length ≤ 4 * ds.length := by
  induction ds with
  | nil => simp [encF]
  | cons r t ih =>
    have := (runeB_length r).2
    have e : encF (r :: t) = runeB r ++ encF t := by simp [encF]
    rw [e, List.length_append, List.length_cons]
    omega
theorem byteV_append (a b : List UInt8) : byteV (a ++ b) = byteV a ++ byteV b := by simp [byteV]
theorem byteV_length (a : List UInt8) : (byteV a).length = a.length := by simp [byteV]

set_option maxRecDepth 100000 in
set_option maxHeartbeats 1000000 in
theorem encode_c (ds : List Int) (v : Value) (w : World) (hr : ∀ r ∈ ds, -2147483648 ≤ r ∧ r ≤ 2147483647) (hlen : ds.length ≤ 4294967296) (hv : RunesAt w v ds) :
    Calls Tryz.prog 94 #[v] w fun e w' => ∃ u, e = .returned u ∧ w'.ownsRow w.heap.size 5 1 u (encF ds).length (byteV (encF ds)) ∧ Below w.heap.size w w' := by
  obtain ⟨a, c, rfl, hc, hcell⟩ := hv
  have HR : Hid (∀ r ∈ ds, -2147483648 ≤ r ∧ r ≤ 2147483647) := hr
  have HC : Hid (0 < ds.length → ∃ g, a = some ⟨g, 0, none⟩ ∧ g < w.heap.size ∧ ∀ j, j < ds.length → w.cell? ⟨g, j, none⟩ = some (.int .i32 (ds.getD j 0))) := hcell
  clear hr hcell
  go_enter Tryz.func94, Tryz.ntmps94
  go_wp2
  go_loopw [3, 8] (fun out i wr => ∃ (k : Nat), i = .int .i64 k ∧ k ≤ ds.length ∧ wr.ownsRow w.heap.size 5 1 out (encF (ds.take k)).length (byteV (encF (ds.take k))) ∧ Below w.heap.size w wr) (fun _ i _ => ds.length - (intOf i).toNat)
  case atStart => exact ⟨0, rfl, Nat.zero_le _, ⟨by simp [encF, byteV], .inl ⟨rfl, by simp [encF]⟩⟩, Below.refl _ _⟩
  case round =>
    obtain ⟨k, rfl, hk, hown, hbl⟩ := hrel
    by_cases hlt : k < ds.length
    · obtain ⟨g, rfl, hg, hce⟩ := HC.out (by omega)
      have hck : wr.cell? ⟨g, k, none⟩ = some (.int .i32 (ds.getD k 0)) := (hbl.cell (p := ⟨g, k, none⟩) hg).trans (hce k hlt)
      have hmem : ds.getD k 0 ∈ ds := by
        rw [List.getD_eq_getElem?_getD, List.getElem?_eq_getElem hlt]
        exact List.getElem_mem hlt
      obtain ⟨hr0, hr1⟩ := HR.out _ hmem
      have hts : ds.take (k + 1) = ds.take k ++ [ds.getD k 0] := by
        rw [List.take_succ_eq_append_getElem hlt, List.getD_eq_getElem?_getD, List.getElem?_eq_getElem hlt]
        rfl
      have hle := encF_length (ds.take k)
      have hlt2 : (ds.take k).length ≤ ds.length := by rw [List.length_take]; omega
      have HT : Hid (encF (ds.take (k + 1)) = encF (ds.take k) ++ runeB (ds.getD k 0)) := by show _ = _; rw [hts, encF_snoc]
      clear hts hce hmem
      generalize encF (ds.take k) = done at *
      generalize ds.getD k 0 = r at *
      go_wp2_with (go_at_call 153; refine (Tryz.utf8_AppendRune_plain w.heap.size _ done.length (byteV done) r hr0 hr1 _ hown (by omega) hbl.size).mono ?_)
      rintro e w1 ⟨v1, rfl, hown1, o, hgr⟩
      have hbl1 : Below w.heap.size w w1 := (hbl.alloc hbl.size o).grown hgr (by have := hbl.size; simp; omega) (fun q hq => (hown.lt q hq).1)
      have hown2 : w1.ownsRow w.heap.size 5 1 v1 (encF (ds.take (k + 1))).length (byteV (encF (ds.take (k + 1)))) := by
        rw [HT.out, byteV_append, List.length_append]
        rw [runeCells_eq, byteV_length] at hown1
        exact hown1
      clear hown1 hgr hown HT hck
      obtain ⟨ao, n1, c1, rfl⟩ : ∃ ao n1 c1, v1 = .slice ao n1 c1 := by
        rcases hown2.2 with ⟨hv, _⟩ | ⟨g, cap, cur, hv, _⟩
        · exact ⟨_, _, _, hv⟩
        · exact ⟨_, _, _, hv⟩
      go_wp2
      refine ⟨⟨k + 1, by go_num, by omega, hown2, hbl1⟩, by simp [intOf]; omega⟩
    · obtain rfl : k = ds.length := by omega
      rw [List.take_length] at hown
      go_wp2
      go_ret
      exact ⟨_, rfl, hown, hbl⟩
end Go.Proofs.YtibgiohijknmbaaGreatDoor
