/-
  escape.signs, In, Encode: what each call answers.
-/
import Derived.Test.YtibgiohijknmbaaGreatDoorProg
import Derived.Test.YtibgiohijknmbaaGreatDoorBase
import Derived.Test.YtibgiohijknmbaaGreatDoorRepB
import Derived.Test.YtibgiohijknmbaaGreatDoorBuild
import Derived.Test.YtibgiohijknmbaaGreatDoorShelf
import Derived.Lib.Hide
import Derived.Laws.BitsLemmas
import Derived.Laws.Strings2
import Derived.StillTailTactics
import Derived.Deep.QuietTactic
import Derived.BigQuiet
namespace Go.Proofs.YtibgiohijknmbaaGreatDoor
open Go.RowKit
set_option linter.unusedVariables false
set_option linter.unusedSimpArgs false

def signsF (set : Int) : List UInt8 :=
  if set = 1 then [32, 34, 60, 62, 96] else if set = 2 then [32, 34, 35, 60, 62] else if set = 3 then [32, 34, 35, 60, 62, 39] else if set = 4 then [32, 34, 35, 60, 62, 63, 94, 96, 123, 125]
  else if set = 5 then [32, 34, 35, 60, 62, 63, 94, 96, 123, 125, 47, 58, 59, 61, 64, 91, 92, 93, 124] else if set = 6 then [32, 34, 35, 60, 62, 63, 94, 96, 123, 125, 47, 58, 59, 61, 64, 91, 92, 93, 124, 36, 37, 38, 43, 44] else []
theorem signs_c (set : Int) (w : World) (h0 : 0 ≤ set) (h6 : set ≤ 6) :
    Calls Tryz.prog 232 #[.int .i64 set] w fun e w' => e = .returned (.string ⟨(signsF set).toArray⟩) ∧ w = w' := by
  have hs : set = 0 ∨ set = 1 ∨ set = 2 ∨ set = 3 ∨ set = 4 ∨ set = 5 ∨ set = 6 := by omega
  rcases hs with rfl | rfl | rfl | rfl | rfl | rfl | rfl
  all_goals
    clear h0 h6
    go_enter Tryz.func232, Tryz.ntmps232
    go_wp2
    go_ret
    exact ⟨rfl, rfl⟩

def inB (set : Int) (c : UInt8) : Bool := decide (c.toNat < 32) || decide (126 < c.toNat) || decide (0 ≤ Lib.indexByte (signsF set) c)
set_option maxHeartbeats 400000 in
theorem in_c (set : Int) (c : UInt8) (w : World) (h0 : 0 ≤ set) (h6 : set ≤ 6) :
    Calls Tryz.prog 175 #[.int .i64 set, .int .u8 (c.toNat : Int)] w fun e w' => e = .returned (.bool (inB set c)) ∧ w = w' := by
  have hc := c.toNat_lt
  have hb : inB set c = (decide (c.toNat < 32) || decide (126 < c.toNat) || decide (0 ≤ Lib.indexByte (signsF set) c)) := rfl
  have hu : ((c.toNat : Int)).toNat.toUInt8 = c := by simp
  have hib := fun W => Tryz.strings_IndexByte ⟨(signsF set).toArray⟩ (c.toNat : Int) W
  rw [hu] at hib
  have e3 : (⟨(signsF set).toArray⟩ : ByteArray).data.toList = signsF set := rfl
  rw [e3] at hib
  clear hu e3
  generalize hr : inB set c = r at *
  clear hr
  have HB := Lib.hid hb
  clear hb
  have n1 : decide (set < 0) = false := by simpa using h0
  have n2 : decide (6 < set) = false := by simpa using h6
  by_cases h1 : c.toNat < 32
  · have h1' : decide ((c.toNat : Int) < 32) = true := by simp; omega
    clear hib
    have : r = true := by rw [HB.out]; simp [h1]
    subst this
    clear HB
    go_enter Tryz.func175, Tryz.ntmps175
    go_wp2
    go_ret
    exact ⟨rfl, rfl⟩
  · by_cases h2 : 126 < c.toNat
    · clear hib
      have : r = true := by rw [HB.out]; simp [h2]
      subst this
      clear HB
      go_enter Tryz.func175, Tryz.ntmps175
      go_wp2
      go_ret
      exact ⟨rfl, rfl⟩
    · have : r = decide (0 ≤ Lib.indexByte (signsF set) c) := by rw [HB.out]; simp [h1, h2]
      clear HB
      generalize Lib.indexByte (signsF set) c = ix at *
      have h1' : ¬ (c.toNat : Int) < 32 := by omega
      have h2' : ¬ 126 < (c.toNat : Int) := by omega
      by_cases h3 : 0 ≤ ix
      · obtain rfl : r = true := by rw [this]; simpa using h3
        clear this
        go_enter Tryz.func175, Tryz.ntmps175
        go_wp2_with (first | (go_at_call 232; refine (signs_c _ _ h0 h6).mono ?_; rintro e w' ⟨rfl, rfl⟩) | (go_at_call 103; refine (hib _).mono ?_; rintro e w' ⟨rfl, rfl⟩))
        go_ret
        exact ⟨rfl, rfl⟩
      · obtain rfl : r = false := by rw [this]; simpa using h3
        have h3' : decide (0 ≤ ix) = false := by simpa using h3
        clear this
        go_enter Tryz.func175, Tryz.ntmps175
        go_wp2_with (first | (go_at_call 232; refine (signs_c _ _ h0 h6).mono ?_; rintro e w' ⟨rfl, rfl⟩) | (go_at_call 103; refine (hib _).mono ?_; rintro e w' ⟨rfl, rfl⟩))
        go_ret
        exact ⟨rfl, rfl⟩

/-- A byte, escaped. -/
def hexU (n : Nat) : UInt8 := ([48, 49, 50, 51, 52, 53, 54, 55, 56, 57, 65, 66, 67, 68, 69, 70] : List UInt8).getD n 0
def pct (c : UInt8) : List UInt8 := [37, hexU (c.toNat / 16), hexU (c.toNat % 16)]
def escL (set : Int) (l : List UInt8) : List UInt8 := l.flatMap fun c => if inB set c = true then pct c else [c]

theorem byteCells_append (a b : List UInt8) : Lib.byteCells (a ++ b) = Lib.byteCells a ++ Lib.byteCells b := by simp [Lib.byteCells]
theorem escL_snoc (set : Int) (l : List UInt8) (c : UInt8) : escL set (l ++ [c]) = escL set l ++ if inB set c = true then pct c else [c] := by simp [escL]
theorem escL_length (set : Int) (l : List UInt8) : (escL set l).length ≤ 3 * l.length := by
  induction l with
  | nil => simp [escL]
  | cons c r ih =>
    have : escL set (c :: r) = (if inB set c = true then pct c else [c]) ++ escL set r := by simp [escL]
    rw [this, List.length_append, List.length_cons]
    split <;> simp [pct] <;> omega

theorem and15 (c : UInt8) : Go.bits .and .u8 (c.toNat : Int) 15 = ((c.toNat % 16 : Nat) : Int) := by
  have h := c.toNat_lt
  rw [u8_and15 _ (by omega) (by omega)]
  omega
theorem wrap_u8 (z : Int) (h0 : 0 ≤ z) (h1 : z ≤ 255) : IntKind.u8.wrap z = z := wraps_u8 z h0 (by omega)
theorem dig_cut : ∀ x : Fin 16, (([48, 49, 50, 51, 52, 53, 54, 55, 56, 57, 65, 66, 67, 68, 69, 70] : List UInt8).drop x.val).take (x.val + 1 - x.val) = [hexU x.val] := by decide
theorem dig_run (x : Nat) (hx : x < 16) (W : World) :
    (Instr.slice 9 (.string ⟨#[48, 49, 50, 51, 52, 53, 54, 55, 56, 57, 65, 66, 67, 68, 69, 70]⟩) (some (.int .u8 (x : Int))) (some (.int .u8 ((x : Int) + 1))) none).run Tryz.prog W = .ok (.string ⟨#[hexU x]⟩) W := by
  rw [run_slice_string W 9 _ .u8 .u8 (x : Int) ((x : Int) + 1) Tryz.underlying9 (by omega) (by omega) (by show _ ≤ ((16 : Nat) : Int); omega)]
  have e1 : ((x : Int)).toNat = x := by omega
  have e2 : ((x : Int) + 1).toNat = x + 1 := by omega
  rw [e1, e2]
  have := dig_cut ⟨x, hx⟩
  simp only at this
  show Result.ok (Value.string ((ByteArray.mk ([48, 49, 50, 51, 52, 53, 54, 55, 56, 57, 65, 66, 67, 68, 69, 70] : List UInt8).toArray).extract x (x + 1))) W = _
  rw [ByteArray.extract_mk, this]
set_option maxRecDepth 100000 in
set_option maxHeartbeats 1000000 in
theorem esc_c (set : Int) (l : List UInt8) (b off cap : Nat) (w : World) (h0 : 0 ≤ set) (h6 : set ≤ 6) (hlen : l.length ≤ 1073741824) (hl : l.length ≤ cap) (hcap : cap ≤ 9223372036854775807) (hby : BytesAt w b off l) (hbw : b < w.heap.size) :
    Calls Tryz.prog 115 #[.int .i64 set, .slice (some ⟨b, off, none⟩) l.length cap] w fun e w' => e = .returned (.string ⟨(escL set l).toArray⟩) ∧ Below w.heap.size w w' := by
  have HBY := Lib.hid hby
  clear hby
  go_enter Tryz.func115, Tryz.ntmps115
  go_wp2
  go_loopw [10] (fun i wr => ∃ k : Nat, k ≤ l.length ∧ i = .int .i64 k ∧ Lib.IsBuilder 191 5 w.heap.size w.heap.size (Lib.byteCells (escL set (l.take k))) wr ∧ Below w.heap.size w wr) (fun i _ => l.length - (intOf i).toNat)
  case atStart => exact ⟨0, Nat.zero_le _, rfl, .inl ⟨Nat.le_refl _, .slice none 0 0, heap_last _ _, ⟨rfl, .inl ⟨rfl, rfl⟩⟩, by simp [Value.ownBlock]⟩, (Below.refl _ _).alloc (Nat.le_refl _) _⟩
  case round =>
    obtain ⟨k, hk, rfl, hB, hb⟩ := hrel
    by_cases hlt : k < l.length
    · have hlt' : (k : Int) < (l.length : Int) := by omega
      have hcell := (HBY.out.below hb hbw) k hlt
      have hle := escL_length set (l.take k)
      have hbl : (Lib.byteCells (escL set (l.take k))).length + 3 ≤ 140737488355328 := by
        rw [Lib.byteCells_length]
        rw [List.length_take] at hle
        omega
      clear hle
      have hsn : l.take (k + 1) = l.take k ++ [l.getD k 0] := by
        rw [List.take_succ_eq_append_getElem hlt, List.getD_eq_getElem?_getD, List.getElem?_eq_getElem hlt]; rfl
      generalize l.getD k 0 = c at *
      have hc := c.toNat_lt
      have hin := fun W => in_c set c W h0 h6
      have hst := escL_snoc set (l.take k) c
      rw [← hsn] at hst
      have HST := Lib.hid hst
      clear hst hsn
      cases hi : inB set c with
      | true =>
        rw [hi] at hin
        have HI := Lib.hid hi
        clear hi
        obtain ⟨x, ex, hx, gx⟩ : ∃ x : Nat, (c.toNat : Int) / 16 = (x : Int) ∧ x < 16 ∧ c.toNat / 16 = x := ⟨c.toNat / 16, by omega, by omega, rfl⟩
        obtain ⟨y, ey, hy, gy⟩ : ∃ y : Nat, Go.bits .and .u8 (c.toNat : Int) 15 = (y : Int) ∧ y < 16 ∧ c.toNat % 16 = y := ⟨c.toNat % 16, and15 c, by omega, rfl⟩
        have hp : Lib.byteCells (pct c) = Lib.strCells (⟨#[37]⟩ ++ ⟨#[hexU x]⟩ ++ ⟨#[hexU y]⟩) := by
          unfold pct
          rw [gx, gy]
          rfl
        have HP := Lib.hid hp
        clear gx gy hp
        have ex1 : IntKind.u8.wrap ((x : Int) + 1) = (x : Int) + 1 := wrap_u8 _ (by omega) (by omega)
        have ey1 : IntKind.u8.wrap ((y : Int) + 1) = (y : Int) + 1 := wrap_u8 _ (by omega) (by omega)
        have rx := dig_run x hx
        have ry := dig_run y hy
        go_wp2_with (go_at_call 175; refine (hin _).mono ?_; rintro e w1 ⟨rfl, rfl⟩)
        go_still_tail 14, (by kernel_rfl)
        have hBd : Lib.IsBuilder 191 5 w.heap.size w.heap.size (Lib.byteCells (escL set (l.take k))) wr.drew := hB
        have hbd := hb.drew
        change wpList _ _ _ _ _ wr.drew
        generalize wr.drew = W2 at *
        go_wp2_with fail
        refine (wstring_c _ _ _ _ _ hBd (by exact hbl) hbd.size).mono ?_
        rintro e w2 ⟨rfl, hB2, hb2⟩
        go_wp2
        go_roundw
        case rel =>
          refine ⟨k + 1, by omega, by go_num, .inr ?_, hbd.trans hb2⟩
          rw [HST.out, HI.out, byteCells_append, if_pos rfl, HP.out]
          exact hB2
        case measure => simp [intOf]; omega
      | false =>
        rw [hi] at hin
        have HI := Lib.hid hi
        clear hi
        go_wp2_with (go_at_call 175; refine (hin _).mono ?_; rintro e w1 ⟨rfl, rfl⟩)
        refine (wbyte_c _ _ _ _ _ hB (by omega) hb.size).mono ?_
        rintro e w2 ⟨rfl, hB2, hb2⟩
        go_wp2
        go_roundw
        case rel =>
          refine ⟨k + 1, by omega, by go_num, .inr ?_, hb.trans hb2⟩
          rw [HST.out, HI.out, byteCells_append]
          exact hB2
        case measure => simp [intOf]; omega
    · obtain rfl : k = l.length := by omega
      rw [List.take_length] at hB
      go_wp2_with (go_at_call 126; refine (Tryz.Builder_String_any _ _ _ _ hB hb.size).mono ?_; rintro e w2 ⟨rfl, hb2⟩)
      go_ret
      exact ⟨rfl, hb.trans hb2⟩

theorem escL_size (set : Int) (s : ByteArray) : (escL set s.data.toList).length ≤ 3 * s.size := by
  have h := escL_length set s.data.toList
  have sz : s.size = s.data.toList.length := by rw [Array.length_toList]; rfl
  rw [← sz] at h
  exact h
/-- escape.Encode of a string's bytes. -/
theorem esc_at (set : Int) (s : ByteArray) (w : World) (n m : Nat) (hn : w.heap.size = n) (hm : s.size = m) (h0 : 0 ≤ set) (h6 : set ≤ 6) (hs : s.size ≤ 1073741824) :
    Calls Tryz.prog 115 #[.int .i64 set, .slice (some ⟨n, 0, none⟩) m (grownCap w m 0 5)] (Lib.bytesWorld w 5 s) fun e w' => e = .returned (.string ⟨(escL set s.data.toList).toArray⟩) ∧ Below w.heap.size w w' := by
  subst hn
  subst hm
  have sz : s.size = s.data.toList.length := by rw [Array.length_toList]; rfl
  have hby : BytesAt (Lib.bytesWorld w 5 s) w.heap.size 0 s.data.toList := fun j hj => by
    rw [Nat.zero_add, Lib.bytesWorld_cell w _ s j (by omega)]
  have hcap1 := grownCap_ge w s.size 0 5
  have hcap2 := grownCap_le_maxLen w s.size 0 5 (by unfold maxLen; omega)
  have hsz := Lib.bytesWorld_size w 5 s
  have hb := below_bytesWorld w 5 s
  rw [sz] at hcap1 hcap2
  have h := esc_c set s.data.toList w.heap.size 0 _ _ h0 h6 (by omega) hcap1 (by unfold maxLen at hcap2; omega) hby (by omega)
  rw [← sz] at h
  exact h.mono fun e w' ⟨he, hb'⟩ => ⟨he, hb.trans (hb'.mono hb.size)⟩
theorem esc_conv (s : ByteArray) (w : World) : (convert 9 29 (.string s)).run Tryz.prog w = .ok (.slice (some ⟨w.heap.size, 0, none⟩) s.size (grownCap w s.size 0 5)) (Lib.bytesWorld w 5 s) :=
  Lib.run_convert_string_bytes (P := Tryz.prog) w 9 29 5 s Tryz.underlying9 Tryz.underlying29 Tryz.underlying5
end Go.Proofs.YtibgiohijknmbaaGreatDoor
