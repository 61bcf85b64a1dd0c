/-
  utf.span, utf.first: the first character of bytes, and how many bytes are read for it.
-/
import Derived.Test.YtibgiohijknmbaaGreatDoorUtf
import Derived.Test.YtibgiohijknmbaaGreatDoorShelfD
import Derived.Deep.LoopGhost
namespace Go.Proofs.YtibgiohijknmbaaGreatDoor
open Go.RowKit
set_option linter.unusedVariables false
set_option linter.unusedSimpArgs false

def spanF (b : Int) : Int × Int × Int :=
  if 194 ≤ b ∧ b ≤ 223 then (128, 191, 2) else if b = 224 then (160, 191, 3) else if b = 237 then (128, 159, 3) else if 225 ≤ b ∧ b ≤ 239 then (128, 191, 3)
  else if b = 240 then (144, 191, 4) else if 241 ≤ b ∧ b ≤ 243 then (128, 191, 4) else if b = 244 then (128, 143, 4) else (0, 0, 0)

set_option maxHeartbeats 1000000 in
theorem span_c (c : Int) (w : World) :
    Calls Tryz.prog 213 #[.int .u8 c] w fun e w' => e = .returned (.tuple #[.int .u8 (spanF c).1, .int .u8 (spanF c).2.1, .int .i64 (spanF c).2.2]) ∧ w = w' := by
  by_cases h1 : 194 ≤ c ∧ c ≤ 223
  · have e : spanF c = (128, 191, 2) := by simp [spanF, h1]
    rw [e]; clear e
    obtain ⟨h1, h2⟩ := h1
    go_enter Tryz.func213, Tryz.ntmps213
    go_wp2
    go_ret3
    exact ⟨rfl, rfl⟩
  by_cases h2 : c = 224
  · subst h2
    go_enter Tryz.func213, Tryz.ntmps213
    go_wp2
    go_ret3
    exact ⟨rfl, rfl⟩
  by_cases h3 : c = 237
  · subst h3
    go_enter Tryz.func213, Tryz.ntmps213
    go_wp2
    go_ret3
    exact ⟨rfl, rfl⟩
  have b2 : (c == 224) = false := by simpa using h2
  have b3 : (c == 237) = false := by simpa using h3
  by_cases h4 : 225 ≤ c ∧ c ≤ 239
  · have e : spanF c = (128, 191, 3) := by simp [spanF, h1, h2, h3, h4]
    rw [e]; clear e
    have h5 : 194 ≤ c := by omega
    have h6 : 223 < c := by omega
    obtain ⟨h7, h8⟩ := h4
    clear h1
    go_enter Tryz.func213, Tryz.ntmps213
    go_wp2
    go_ret3
    exact ⟨rfl, rfl⟩
  by_cases h5 : c = 240
  · subst h5
    go_enter Tryz.func213, Tryz.ntmps213
    go_wp2
    go_ret3
    exact ⟨rfl, rfl⟩
  have b5 : (c == 240) = false := by simpa using h5
  by_cases h6 : 241 ≤ c ∧ c ≤ 243
  · have e : spanF c = (128, 191, 4) := by simp [spanF, h1, h2, h3, h4, h5, h6]
    rw [e]; clear e
    have h7 : 194 ≤ c := by omega
    have h8 : 223 < c := by omega
    have h9 : 239 < c := by omega
    obtain ⟨h10, h11⟩ := h6
    clear h1 h4
    go_enter Tryz.func213, Tryz.ntmps213
    go_wp2
    go_ret3
    exact ⟨rfl, rfl⟩
  by_cases h7 : c = 244
  · subst h7
    go_enter Tryz.func213, Tryz.ntmps213
    go_wp2
    go_ret3
    exact ⟨rfl, rfl⟩
  have b7 : (c == 244) = false := by simpa using h7
  have e : spanF c = (0, 0, 0) := by simp [spanF, h1, h2, h3, h4, h5, h6, h7]
  rw [e]; clear e
  by_cases hlo : c < 194
  · clear h1 h4 h6
    have h8 : c < 225 := by omega
    have h9 : c < 241 := by omega
    go_enter Tryz.func213, Tryz.ntmps213
    go_wp2
    go_ret3
    exact ⟨rfl, rfl⟩
  · have h8 : 243 < c := by omega
    clear h1 h4 h6
    go_enter Tryz.func213, Tryz.ntmps213
    go_wp2
    go_ret3
    exact ⟨rfl, rfl⟩

/-- How many bytes are read: the loop of utf.first, from n bytes on. -/
def scanF (lo hi : Int) (many : Int) (n : Nat) : List UInt8 → Nat
  | [] => n
  | c :: t => if (n : Int) < many ∧ lo ≤ (c.toNat : Int) ∧ (c.toNat : Int) ≤ hi then scanF 128 191 many (n + 1) t else n
def firstN (l : List UInt8) : Nat := scanF (spanF ((l.getD 0 0).toNat : Int)).1 (spanF ((l.getD 0 0).toNat : Int)).2.1 (spanF ((l.getD 0 0).toNat : Int)).2.2 1 (l.drop 1)
def firstF (l : List UInt8) : Int × Nat :=
  if (l.getD 0 0).toNat < 128 then (((l.getD 0 0).toNat : Int), 1)
  else if (spanF ((l.getD 0 0).toNat : Int)).2.2 = 0 ∨ (firstN l : Int) < (spanF ((l.getD 0 0).toNat : Int)).2.2 then (65533, firstN l)
  else (((Lib.decodeGo ⟨(l.take (firstN l)).toArray⟩).1 : Int), firstN l)

theorem spanF_many (c : Int) : 0 ≤ (spanF c).2.2 ∧ (spanF c).2.2 ≤ 4 := by unfold spanF; (repeat' split) <;> simp
theorem spanF_lo (c : Int) : 0 ≤ (spanF c).1 ∧ (spanF c).1 ≤ 255 := by unfold spanF; (repeat' split) <;> simp
theorem spanF_hi (c : Int) : 0 ≤ (spanF c).2.1 ∧ (spanF c).2.1 ≤ 255 := by unfold spanF; (repeat' split) <;> simp
theorem scanF_le (lo hi many : Int) (l : List UInt8) : ∀ n, n ≤ scanF lo hi many n l ∧ scanF lo hi many n l ≤ n + l.length := by
  induction l generalizing lo hi with
  | nil => intro n; simp [scanF]
  | cons c t ih =>
    intro n
    unfold scanF
    split
    · have := ih 128 191 (n + 1)
      simp only [List.length_cons]
      omega
    · simp only [List.length_cons]; omega
theorem scanF_many (lo hi many : Int) (l : List UInt8) : ∀ n : Nat, ((scanF lo hi many n l : Nat) : Int) ≤ max (n : Int) many := by
  induction l generalizing lo hi with
  | nil => intro n; simp only [scanF]; omega
  | cons c t ih =>
    intro n
    unfold scanF
    split
    · rename_i h
      have := ih 128 191 (n + 1)
      omega
    · omega
theorem firstN_range (l : List UInt8) (h : l ≠ []) : 1 ≤ firstN l ∧ firstN l ≤ l.length ∧ firstN l ≤ 4 := by
  have h1 := scanF_le (spanF ((l.getD 0 0).toNat : Int)).1 (spanF ((l.getD 0 0).toNat : Int)).2.1 (spanF ((l.getD 0 0).toNat : Int)).2.2 (l.drop 1) 1
  have h2 := scanF_many (spanF ((l.getD 0 0).toNat : Int)).1 (spanF ((l.getD 0 0).toNat : Int)).2.1 (spanF ((l.getD 0 0).toNat : Int)).2.2 (l.drop 1) 1
  have h3 := (spanF_many ((l.getD 0 0).toNat : Int)).2
  have h4 : 0 < l.length := by cases l with | nil => exact absurd rfl h | cons _ _ => simp
  simp only [List.length_drop] at h1
  unfold firstN
  omega
theorem take_get (l : List UInt8) (k j : Nat) (hj : j < k) (hk : k ≤ l.length) : ((⟨(l.take k).toArray⟩ : ByteArray).get! j).toNat = (l.getD j 0).toNat := by
  show ((l.take k).toArray[j]!).toNat = _
  rw [List.getElem!_toArray, getElem!_pos _ j (by rw [List.length_take]; omega), List.getElem_take, List.getD_eq_getElem?_getD, List.getElem?_eq_getElem (by omega)]
  rfl
theorem decode_take (l : List UInt8) (b off cap k : Nat) (w : World) (hT : Lib.Utf8Tabs 1 2 w) (hk : k ≤ l.length) (hb : BytesAt w b off l) :
    Calls Tryz.prog 214 #[.slice (some ⟨b, off, none⟩) k cap] w fun e w' => e = .returned (.tuple #[.int .i32 (Lib.decodeGo ⟨(l.take k).toArray⟩).1, .int .i64 (Lib.decodeGo ⟨(l.take k).toArray⟩).2]) ∧ Below w.heap.size w w' := by
  have hs : (⟨(l.take k).toArray⟩ : ByteArray).size = k := by
    show (l.take k).toArray.size = k
    rw [List.size_toArray, List.length_take]
    omega
  have h := Tryz.utf8_DecodeRune ⟨(l.take k).toArray⟩ b off cap w hT (fun j hj => by
    rw [hs] at hj
    rw [take_get l k j hj hk]
    exact hb j (by omega))
  rw [hs] at h
  exact h

set_option maxRecDepth 100000 in
set_option maxHeartbeats 1000000 in
theorem first_c (l : List UInt8) (b off cap : Nat) (w : World) (hT : Lib.Utf8Tabs 1 2 w) (h0 : l ≠ []) (hl : l.length ≤ cap) (hcap : cap ≤ 9223372036854775807) (hb : BytesAt w b off l) :
    Calls Tryz.prog 154 #[.slice (some ⟨b, off, none⟩) l.length cap] w fun e w' => e = .returned (.tuple #[.int .i32 (firstF l).1, .int .i64 (firstF l).2]) ∧ Below w.heap.size w w' := by
  have hlen : 0 < l.length := by cases l with | nil => exact absurd rfl h0 | cons _ _ => simp
  have hc0 : w.cell? ⟨b, off, none⟩ = some (.int .u8 ((l.getD 0 0).toNat : Int)) := hb 0 hlen
  have hx := (l.getD 0 0).toNat_lt
  obtain ⟨x, hxe⟩ : ∃ x : Nat, (l.getD 0 0).toNat = x := ⟨_, rfl⟩
  rw [hxe] at hc0 hx
  have hlp : (0 : Int) < (l.length : Int) := by omega
  by_cases ha : (x : Int) < 128
  · have e : firstF l = ((x : Int), 1) := by unfold firstF; rw [hxe, if_pos (by omega)]
    rw [e]
    clear e hxe hb hT
    go_enter Tryz.func154, Tryz.ntmps154
    go_wp2
    go_ret2
    exact ⟨rfl, Below.refl _ _⟩
  · have hr := firstN_range l h0
    have hs1 := spanF_many (x : Int)
    have hs2 := spanF_lo (x : Int)
    have hs3 := spanF_hi (x : Int)
    obtain ⟨R, hR⟩ : ∃ R, firstN l = R := ⟨_, rfl⟩
    have HR : Hid (scanF (spanF (x : Int)).1 (spanF (x : Int)).2.1 (spanF (x : Int)).2.2 1 (l.drop 1) = R) := by rw [← hR]; unfold firstN; rw [hxe]; rfl
    have HE : Hid (firstF l = if (spanF (x : Int)).2.2 = 0 ∨ (R : Int) < (spanF (x : Int)).2.2 then (65533, R) else (((Lib.decodeGo ⟨(l.take R).toArray⟩).1 : Int), R)) := by
      show _ = _
      unfold firstF
      rw [hxe, if_neg (by omega), hR]
    rw [hR] at hr
    have HX : Hid ((l.getD 0 0).toNat = x) := hxe
    have HB : Hid (BytesAt w b off l) := hb
    have HT : Hid (Lib.Utf8Tabs 1 2 w) := hT
    clear hxe hR hb hT
    go_enter Tryz.func154, Tryz.ntmps154
    go_wp2_with (go_at_call 213; refine (span_c _ _).mono ?_; rintro e w' ⟨rfl, rfl⟩)
    generalize (spanF (x : Int)).1 = lo0 at *
    generalize (spanF (x : Int)).2.1 = hi0 at *
    generalize (spanF (x : Int)).2.2 = mn at *
    go_loop [4, 5, 7] (fun lo hi n => ∃ (k : Nat) (a c : Int), 1 ≤ k ∧ k ≤ l.length ∧ (k : Int) ≤ 4 ∧ 0 ≤ a ∧ a ≤ 255 ∧ 0 ≤ c ∧ c ≤ 255 ∧ lo = .int .u8 a ∧ hi = .int .u8 c ∧ n = .int .i64 k ∧ Hid (scanF a c mn k (l.drop k) = R)) (fun _ _ n => l.length - (intOf n).toNat)
    case atStart => exact ⟨1, lo0, hi0, by omega, by omega, by omega, by omega, by omega, by omega, by omega, rfl, rfl, rfl, HR⟩
    case round =>
      obtain ⟨k, a, c, hk1, hk2, hk3, ha1, ha2, hc1, hc2, rfl, rfl, rfl, hsc⟩ := hrel
      have cD := fun hw => decode_take l b off cap k w HT.out hw HB.out
      by_cases hkl : k < l.length
      · have hck := HB.out k hkl
        have hdrop : l.drop k = l.getD k 0 :: l.drop (k + 1) := by
          rw [List.drop_eq_getElem_cons hkl, List.getD_eq_getElem?_getD, List.getElem?_eq_getElem hkl]
          rfl
        have hy := (l.getD k 0).toNat_lt
        have HS : Hid ((if (k : Int) < mn ∧ a ≤ ((l.getD k 0).toNat : Int) ∧ ((l.getD k 0).toNat : Int) ≤ c then scanF 128 191 mn (k + 1) (l.drop (k + 1)) else k) = R) := by
          have := hsc.out
          rw [hdrop] at this
          exact this
        clear hdrop hsc
        generalize (l.getD k 0).toNat = y at *
        have hkl' : (k : Int) < (l.length : Int) := by omega
        go_wp2_with (go_at_call 214; refine (cD (by omega)).mono ?_; rintro e w' ⟨rfl, hbw⟩)
        all_goals first
          | (refine ⟨⟨k + 1, 128, 191, by omega, by omega, by omega, by omega, by omega, by omega, by omega, rfl, rfl, by go_num, ?_⟩, by simp [intOf]; omega⟩
             have h := HS.out
             rw [if_pos ⟨by omega, by omega, by omega⟩] at h
             exact h)
          | (have h := HS.out
             rw [if_neg (by omega)] at h
             subst h
             go_ret2
             rw [HE.out]
             first
              | (rw [if_pos (by omega)]; exact ⟨rfl, Below.refl _ _⟩)
              | (rw [if_neg (by omega)]; exact ⟨rfl, by assumption⟩))
      · obtain rfl : k = l.length := by omega
        have h := hsc.out
        rw [List.drop_length] at h
        simp only [scanF] at h
        subst h
        have hkl' : ¬ ((l.length : Int) < (l.length : Int)) := by omega
        clear hsc
        go_wp2_with (go_at_call 214; refine (cD (by omega)).mono ?_; rintro e w' ⟨rfl, hbw⟩)
        all_goals
          go_ret2
          rw [HE.out]
          first
            | (rw [if_pos (by omega)]; exact ⟨rfl, Below.refl _ _⟩)
            | (rw [if_neg (by omega), List.take_length]; exact ⟨rfl, by assumption⟩)
end Go.Proofs.YtibgiohijknmbaaGreatDoor
