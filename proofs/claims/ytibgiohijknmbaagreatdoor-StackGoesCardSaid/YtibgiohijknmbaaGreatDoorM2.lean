/-
  Joined texts: Build, Esc, Url.
-/
import Derived.Test.YtibgiohijknmbaaGreatDoorM1
import Derived.Test.YtibgiohijknmbaaGreatDoorProg
import Derived.Lib.Builder
import Derived.Lib.AppendStr
import Derived.Laws.Slices
import Derived.Lib.Walk
import Derived.Test.YtibgiohijknmbaaGreatDoorShelf
import Derived.Lib.Hide
import Derived.Laws.BitsLemmas
import Derived.Laws.Strings2
import Derived.StillTailTactics
import Derived.Deep.QuietTactic
import Derived.BigQuiet
import Derived.Maps.OwnSet
import Derived.Maps.Keyed
/-
  strings.Builder at a builder of the call's own: copyCheck, WriteByte, WriteString (String comes off the shelf).
-/
namespace Go.Proofs.YtibgiohijknmbaaGreatDoor
open Go.RowKit
set_option linter.unusedVariables false
set_option linter.unusedSimpArgs false

abbrev tB : Nat := 191
theorem bsize : ∃ j, Tryz.prog.info? 191 = some j ∧ j.size ≠ 0 := by
  have h : (Tryz.prog.info? 191).map (·.size) = some 2 := by kernel_rfl
  obtain ⟨j, hj, hs⟩ := Option.map_eq_some_iff.1 h
  exact ⟨j, hj, by rw [hs]; decide⟩
theorem blies : ∃ j, Tryz.prog.info? 191 = some j := by
  obtain ⟨j, h, _⟩ := bsize
  exact ⟨j, h⟩

set_option maxHeartbeats 1000000 in
set_option maxRecDepth 100000 in
theorem copy_used (b : Nat) (w : World) (h0 : w.cell? ⟨b, 0, none⟩ = some (.pointer (some ⟨b, 0, none⟩))) :
    Calls Tryz.prog 179 #[.pointer (some ⟨b, 0, none⟩)] w fun e w' => e = .returned (.tuple #[]) ∧ w = w' := by
  obtain ⟨j, hj⟩ := blies
  go_enter Tryz.func179, Tryz.ntmps179
  go_wp2
  rw [Lib.run_neq_ptr_same w _ Tryz.underlying189 hj]
  go_wp2
  go_end0
  exact ⟨rfl, rfl⟩

set_option maxHeartbeats 1000000 in
set_option maxRecDepth 100000 in
theorem copy_fresh (b : Nat) (w : World) (h0 : w.cell? ⟨b, 0, none⟩ = some (.pointer none)) (hsh : w.shape? b = some (191, 2)) (hfz : w.frozen? ⟨b, 0, none⟩ = false) :
    Calls Tryz.prog 179 #[.pointer (some ⟨b, 0, none⟩)] w fun e w' => e = .returned (.tuple #[]) ∧ w.setCell ⟨b, 0, none⟩ (.pointer (some ⟨b, 0, none⟩)) = w' := by
  obtain ⟨j, hj, hjs⟩ := bsize
  go_enter Tryz.func179, Tryz.ntmps179
  go_wp2
  rw [Lib.run_to_unsafe w ⟨b, 0, none⟩ Tryz.underlying189 Tryz.underlying275 hj hjs hsh (Nat.zero_lt_succ 1)]
  simp only [Result.andThen]
  rw [Oper.upon_value]
  go_wp2
  rw [run_callFunc_extern Tryz.func234 (by kernel_rfl) (by kernel_rfl) (by kernel_rfl) (e := Extern.AbiNoEscape.same) (by kernel_rfl)]
  rw [Lib.run_noEscape]
  simp only [Result.andThen]
  rw [Oper.upon_value]
  go_wp2
  rw [Lib.run_from_unsafe w ⟨b, 0, none⟩ Tryz.underlying275 Tryz.underlying189 hj hsh (by kernel_rfl)]
  simp only [Result.andThen]
  rw [Oper.upon_value]
  go_wp2
  go_end0
  exact ⟨rfl, rfl⟩

theorem copy_c (B b : Nat) (bs : List Value) (w : World) (h : Lib.IsBuilder 191 5 B b bs w) :
    Calls Tryz.prog 179 #[.pointer (some ⟨b, 0, none⟩)] w fun e w' => e = .returned (.tuple #[]) ∧ Lib.BuilderAt 191 5 B b (.pointer (some ⟨b, 0, none⟩)) bs w' ∧ Below B w w' := by
  rcases h with h | h
  · refine (copy_fresh b w h.cell0 h.shape h.frozen0).mono ?_
    rintro e w' ⟨rfl, rfl⟩
    exact ⟨rfl, h.used _, (Below.refl B w).setCell (p := ⟨b, 0, none⟩) h.1 _⟩
  · refine (copy_used b w h.cell0).mono ?_
    rintro e w' ⟨rfl, rfl⟩
    exact ⟨rfl, h, Below.refl B _⟩

theorem binfo : (Tryz.prog.info? 5).map (fun i => (i.zero, i.size, i.bytes)) = some (some (.int .u8 0), 1, 1) := by kernel_rfl
theorem heap_lt {w : World} {b : Nat} {o : Obj} (h : w.heap[b]? = some o) : b < w.heap.size := by
  rcases Nat.lt_or_ge b w.heap.size with h' | h'
  · exact h'
  · simp [Array.getElem?_eq_none h'] at h

set_option maxHeartbeats 2000000 in
set_option maxRecDepth 100000 in
theorem wbyte_c (B b : Nat) (bs : List Value) (c : Int) (w : World) (h : Lib.IsBuilder 191 5 B b bs w) (hlen : bs.length + 1 ≤ 140737488355328) (hBw : B ≤ w.heap.size) :
    Calls Tryz.prog 176 #[.pointer (some ⟨b, 0, none⟩), .int .u8 c] w fun e w' => e = .returned .nilIface ∧ Lib.BuilderAt 191 5 B b (.pointer (some ⟨b, 0, none⟩)) (bs ++ [.int .u8 c]) w' ∧ Below B w w' := by
  obtain ⟨i0, hi, hz0, hz1, hz2⟩ := info_parts binfo
  go_enter Tryz.func176, Tryz.ntmps176
  go_wp2_with (go_at_call 179; refine (copy_c B b bs _ h).mono ?_)
  rintro e w1 ⟨rfl, ⟨hB, v, hbk, hown, hne⟩, hb1⟩
  have c0 : w1.cell? ⟨b, 0, none⟩ = some (.pointer (some ⟨b, 0, none⟩)) := by rw [Lib.cell_of_heap hbk]; rfl
  have c1 : w1.cell? ⟨b, 1, none⟩ = some v := by rw [Lib.cell_of_heap hbk]; rfl
  have hz := hb1.size
  go_wp2_with (at_builtin; refine wpList_append_own _ rfl _ _ 29 rfl B 5 i0 (.int .u8 0) 1 1 Tryz.underlying29 hi hz0 hz1 hz2 rfl (by decide) _ _ _ rfl (hown.alloc _) ⟨w1.heap.size, 0, none⟩ 1 1 [.int .u8 c] rfl rfl ?c1 ?c2 ?c3 ?c4 ?c5 ?_)
  case c1 =>
    intro j u hj
    match j, hj with
    | 0, hj => simp at hj; subst hj; simp [Addr.add]
  case c2 => intro u hu; simp at hu; subst hu; rfl
  case c3 => unfold maxLen; omega
  case c4 => omega
  case c5 => simp; omega
  intro v' w2 hown' hgrow _
  have hb2 : w2.heap[b]? = some (.cells #[.pointer (some ⟨b, 0, none⟩), v] 191 (0, 0)) := by
    have hlt := heap_lt hbk
    rw [hgrow.block b (by simp; omega) (fun e => hne e.symm), Lib.alloc_old w1 _ b hlt]
    exact hbk
  have d0 : w2.cell? ⟨b, 0, none⟩ = some (.pointer (some ⟨b, 0, none⟩)) := by rw [Lib.cell_of_heap hb2]; rfl
  have d1 : w2.cell? ⟨b, 1, none⟩ = some v := by rw [Lib.cell_of_heap hb2]; rfl
  have f1 : w2.frozen? ⟨b, 1, none⟩ = false := Lib.frozen_of_heap hb2 1
  obtain ⟨g, cap, rfl⟩ : ∃ g cap, v' = .slice (some ⟨g, 0, none⟩) (bs.length + 1) cap := by
    rcases hown'.2 with ⟨_, h0⟩ | ⟨g, cap, cur, hv, _⟩
    · omega
    · exact ⟨g, cap, hv⟩
  go_wp2
  go_ret
  refine ⟨rfl, Lib.BuilderAt.put (T := 191) (e := 5) hB hb2 (bs' := bs ++ [.int .u8 c]) (by simpa using hown') (by decide), ?_⟩
  exact ((hb1.alloc (by omega) _).grown hgrow (by simp; omega) (fun k hk => (hown.lt k hk).1)).setCell (p := ⟨b, 1, none⟩) hB _

set_option maxHeartbeats 2000000 in
set_option maxRecDepth 100000 in
theorem wstring_c (B b : Nat) (bs : List Value) (s : ByteArray) (w : World) (h : Lib.IsBuilder 191 5 B b bs w) (hlen : bs.length + s.size ≤ 140737488355328) (hBw : B ≤ w.heap.size) :
    Calls Tryz.prog 125 #[.pointer (some ⟨b, 0, none⟩), .string s] w fun e w' => e = .returned (.tuple #[.int .i64 s.size, .nilIface]) ∧ Lib.BuilderAt 191 5 B b (.pointer (some ⟨b, 0, none⟩)) (bs ++ Lib.strCells s) w' ∧ Below B w w' := by
  obtain ⟨i0, hi, hz0, hz1, hz2⟩ := info_parts binfo
  go_enter Tryz.func125, Tryz.ntmps125
  go_wp2_with (go_at_call 179; refine (copy_c B b bs _ h).mono ?_)
  rintro e w1 ⟨rfl, ⟨hB, v, hbk, hown, hne⟩, hb1⟩
  have c0 : w1.cell? ⟨b, 0, none⟩ = some (.pointer (some ⟨b, 0, none⟩)) := by rw [Lib.cell_of_heap hbk]; rfl
  have c1 : w1.cell? ⟨b, 1, none⟩ = some v := by rw [Lib.cell_of_heap hbk]; rfl
  have hz := hb1.size
  go_wp2_with (at_builtin; refine Lib.wpList_append_own_string _ rfl _ _ 29 9 rfl B 5 i0 Tryz.underlying29 Tryz.underlying9 hi hz0 hz1 hz2 _ _ _ rfl hown s rfl ?c3 ?c4 ?c5 ?_)
  case c3 => unfold maxLen; omega
  case c4 => omega
  case c5 => omega
  intro v' w2 hown' hgrow _
  have hb2 : w2.heap[b]? = some (.cells #[.pointer (some ⟨b, 0, none⟩), v] 191 (0, 0)) := by
    rw [hgrow.block b (heap_lt hbk) (fun e => hne e.symm)]
    exact hbk
  have d0 : w2.cell? ⟨b, 0, none⟩ = some (.pointer (some ⟨b, 0, none⟩)) := by rw [Lib.cell_of_heap hb2]; rfl
  have d1 : w2.cell? ⟨b, 1, none⟩ = some v := by rw [Lib.cell_of_heap hb2]; rfl
  have f1 : w2.frozen? ⟨b, 1, none⟩ = false := Lib.frozen_of_heap hb2 1
  obtain ⟨ao, n', cap, rfl⟩ : ∃ ao n' cap, v' = .slice ao n' cap := by
    rcases hown'.2 with ⟨hv, _⟩ | ⟨g, cap, cur, hv, _⟩
    · exact ⟨_, _, _, hv⟩
    · exact ⟨_, _, _, hv⟩
  go_wp2
  go_ret2
  refine ⟨rfl, Lib.BuilderAt.put (T := 191) (e := 5) hB hb2 (bs' := bs ++ Lib.strCells s) (by simpa [Lib.strCells_length] using hown') (by decide), ?_⟩
  exact (hb1.grown hgrow (by omega) (fun k hk => (hown.lt k hk).1)).setCell (p := ⟨b, 1, none⟩) hB _
end Go.Proofs.YtibgiohijknmbaaGreatDoor

/-
  escape.signs, In, Encode: what each call answers.
-/
namespace Go.Proofs.YtibgiohijknmbaaGreatDoor
open Go.RowKit
set_option linter.unusedVariables false
set_option linter.unusedSimpArgs false

def signsF (set : Int) : List UInt8 :=
  if set = 1 then [32, 34, 60, 62, 96] else if set = 2 then [32, 34, 35, 60, 62] else if set = 3 then [32, 34, 35, 60, 62, 39] else if set = 4 then [32, 34, 35, 60, 62, 63, 94, 96, 123, 125]
  else if set = 5 then [32, 34, 35, 60, 62, 63, 94, 96, 123, 125, 47, 58, 59, 61, 64, 91, 92, 93, 124] else if set = 6 then [32, 34, 35, 60, 62, 63, 94, 96, 123, 125, 47, 58, 59, 61, 64, 91, 92, 93, 124, 36, 37, 38, 43, 44] else []
theorem signs_c (set : Int) (w : World) (h0 : 0 ≤ set) (h6 : set ≤ 6) :
    Calls Tryz.prog 232 #[.int .i64 set] w fun e w' => e = .returned (.string ⟨(signsF set).toArray⟩) ∧ w = w' := by
  have hs : set = 0 ∨ set = 1 ∨ set = 2 ∨ set = 3 ∨ set = 4 ∨ set = 5 ∨ set = 6 := by omega
  rcases hs with rfl | rfl | rfl | rfl | rfl | rfl | rfl
  all_goals
    clear h0 h6
    go_enter Tryz.func232, Tryz.ntmps232
    go_wp2
    go_ret
    exact ⟨rfl, rfl⟩

def inB (set : Int) (c : UInt8) : Bool := decide (c.toNat < 32) || decide (126 < c.toNat) || decide (0 ≤ Lib.indexByte (signsF set) c)
set_option maxHeartbeats 400000 in
theorem in_c (set : Int) (c : UInt8) (w : World) (h0 : 0 ≤ set) (h6 : set ≤ 6) :
    Calls Tryz.prog 175 #[.int .i64 set, .int .u8 (c.toNat : Int)] w fun e w' => e = .returned (.bool (inB set c)) ∧ w = w' := by
  have hc := c.toNat_lt
  have hb : inB set c = (decide (c.toNat < 32) || decide (126 < c.toNat) || decide (0 ≤ Lib.indexByte (signsF set) c)) := rfl
  have hu : ((c.toNat : Int)).toNat.toUInt8 = c := by simp
  have hib := fun W => Tryz.strings_IndexByte ⟨(signsF set).toArray⟩ (c.toNat : Int) W
  rw [hu] at hib
  have e3 : (⟨(signsF set).toArray⟩ : ByteArray).data.toList = signsF set := rfl
  rw [e3] at hib
  clear hu e3
  generalize hr : inB set c = r at *
  clear hr
  have HB := Lib.hid hb
  clear hb
  have n1 : decide (set < 0) = false := by simpa using h0
  have n2 : decide (6 < set) = false := by simpa using h6
  by_cases h1 : c.toNat < 32
  · have h1' : decide ((c.toNat : Int) < 32) = true := by simp; omega
    clear hib
    have : r = true := by rw [HB.out]; simp [h1]
    subst this
    clear HB
    go_enter Tryz.func175, Tryz.ntmps175
    go_wp2
    go_ret
    exact ⟨rfl, rfl⟩
  · by_cases h2 : 126 < c.toNat
    · clear hib
      have : r = true := by rw [HB.out]; simp [h2]
      subst this
      clear HB
      go_enter Tryz.func175, Tryz.ntmps175
      go_wp2
      go_ret
      exact ⟨rfl, rfl⟩
    · have : r = decide (0 ≤ Lib.indexByte (signsF set) c) := by rw [HB.out]; simp [h1, h2]
      clear HB
      generalize Lib.indexByte (signsF set) c = ix at *
      have h1' : ¬ (c.toNat : Int) < 32 := by omega
      have h2' : ¬ 126 < (c.toNat : Int) := by omega
      by_cases h3 : 0 ≤ ix
      · obtain rfl : r = true := by rw [this]; simpa using h3
        clear this
        go_enter Tryz.func175, Tryz.ntmps175
        go_wp2_with (first | (go_at_call 232; refine (signs_c _ _ h0 h6).mono ?_; rintro e w' ⟨rfl, rfl⟩) | (go_at_call 103; refine (hib _).mono ?_; rintro e w' ⟨rfl, rfl⟩))
        go_ret
        exact ⟨rfl, rfl⟩
      · obtain rfl : r = false := by rw [this]; simpa using h3
        have h3' : decide (0 ≤ ix) = false := by simpa using h3
        clear this
        go_enter Tryz.func175, Tryz.ntmps175
        go_wp2_with (first | (go_at_call 232; refine (signs_c _ _ h0 h6).mono ?_; rintro e w' ⟨rfl, rfl⟩) | (go_at_call 103; refine (hib _).mono ?_; rintro e w' ⟨rfl, rfl⟩))
        go_ret
        exact ⟨rfl, rfl⟩

/-- A byte, escaped. -/
def hexU (n : Nat) : UInt8 := ([48, 49, 50, 51, 52, 53, 54, 55, 56, 57, 65, 66, 67, 68, 69, 70] : List UInt8).getD n 0
def pct (c : UInt8) : List UInt8 := [37, hexU (c.toNat / 16), hexU (c.toNat % 16)]
def escL (set : Int) (l : List UInt8) : List UInt8 := l.flatMap fun c => if inB set c = true then pct c else [c]

theorem byteCells_append (a b : List UInt8) : Lib.byteCells (a ++ b) = Lib.byteCells a ++ Lib.byteCells b := by simp [Lib.byteCells]
theorem escL_snoc (set : Int) (l : List UInt8) (c : UInt8) : escL set (l ++ [c]) = escL set l ++ if inB set c = true then pct c else [c] := by simp [escL]
theorem escL_length (set : Int) (l : List UInt8) : (escL set l).length ≤ 3 * l.length := by
  induction l with
  | nil => simp [escL]
  | cons c r ih =>
    have : escL set (c :: r) = (if inB set c = true then pct c else [c]) ++ escL set r := by simp [escL]
    rw [this, List.length_append, List.length_cons]
    split <;> simp [pct] <;> omega

theorem and15 (c : UInt8) : Go.bits .and .u8 (c.toNat : Int) 15 = ((c.toNat % 16 : Nat) : Int) := by
  have h := c.toNat_lt
  rw [u8_and15 _ (by omega) (by omega)]
  omega
theorem wrap_u8 (z : Int) (h0 : 0 ≤ z) (h1 : z ≤ 255) : IntKind.u8.wrap z = z := wraps_u8 z h0 (by omega)
theorem dig_cut : ∀ x : Fin 16, (([48, 49, 50, 51, 52, 53, 54, 55, 56, 57, 65, 66, 67, 68, 69, 70] : List UInt8).drop x.val).take (x.val + 1 - x.val) = [hexU x.val] := by decide
theorem dig_run (x : Nat) (hx : x < 16) (W : World) :
    (Instr.slice 9 (.string ⟨#[48, 49, 50, 51, 52, 53, 54, 55, 56, 57, 65, 66, 67, 68, 69, 70]⟩) (some (.int .u8 (x : Int))) (some (.int .u8 ((x : Int) + 1))) none).run Tryz.prog W = .ok (.string ⟨#[hexU x]⟩) W := by
  rw [run_slice_string W 9 _ .u8 .u8 (x : Int) ((x : Int) + 1) Tryz.underlying9 (by omega) (by omega) (by show _ ≤ ((16 : Nat) : Int); omega)]
  have e1 : ((x : Int)).toNat = x := by omega
  have e2 : ((x : Int) + 1).toNat = x + 1 := by omega
  rw [e1, e2]
  have := dig_cut ⟨x, hx⟩
  simp only at this
  show Result.ok (Value.string ((ByteArray.mk ([48, 49, 50, 51, 52, 53, 54, 55, 56, 57, 65, 66, 67, 68, 69, 70] : List UInt8).toArray).extract x (x + 1))) W = _
  rw [ByteArray.extract_mk, this]
set_option maxRecDepth 100000 in
set_option maxHeartbeats 1000000 in
theorem esc_c (set : Int) (l : List UInt8) (b off cap : Nat) (w : World) (h0 : 0 ≤ set) (h6 : set ≤ 6) (hlen : l.length ≤ 1073741824) (hl : l.length ≤ cap) (hcap : cap ≤ 9223372036854775807) (hby : BytesAt w b off l) (hbw : b < w.heap.size) :
    Calls Tryz.prog 115 #[.int .i64 set, .slice (some ⟨b, off, none⟩) l.length cap] w fun e w' => e = .returned (.string ⟨(escL set l).toArray⟩) ∧ Below w.heap.size w w' := by
  have HBY := Lib.hid hby
  clear hby
  go_enter Tryz.func115, Tryz.ntmps115
  go_wp2
  go_loopw [10] (fun i wr => ∃ k : Nat, k ≤ l.length ∧ i = .int .i64 k ∧ Lib.IsBuilder 191 5 w.heap.size w.heap.size (Lib.byteCells (escL set (l.take k))) wr ∧ Below w.heap.size w wr) (fun i _ => l.length - (intOf i).toNat)
  case atStart => exact ⟨0, Nat.zero_le _, rfl, .inl ⟨Nat.le_refl _, .slice none 0 0, heap_last _ _, ⟨rfl, .inl ⟨rfl, rfl⟩⟩, by simp [Value.ownBlock]⟩, (Below.refl _ _).alloc (Nat.le_refl _) _⟩
  case round =>
    obtain ⟨k, hk, rfl, hB, hb⟩ := hrel
    by_cases hlt : k < l.length
    · have hlt' : (k : Int) < (l.length : Int) := by omega
      have hcell := (HBY.out.below hb hbw) k hlt
      have hle := escL_length set (l.take k)
      have hbl : (Lib.byteCells (escL set (l.take k))).length + 3 ≤ 140737488355328 := by
        rw [Lib.byteCells_length]
        rw [List.length_take] at hle
        omega
      clear hle
      have hsn : l.take (k + 1) = l.take k ++ [l.getD k 0] := by
        rw [List.take_succ_eq_append_getElem hlt, List.getD_eq_getElem?_getD, List.getElem?_eq_getElem hlt]; rfl
      generalize l.getD k 0 = c at *
      have hc := c.toNat_lt
      have hin := fun W => in_c set c W h0 h6
      have hst := escL_snoc set (l.take k) c
      rw [← hsn] at hst
      have HST := Lib.hid hst
      clear hst hsn
      cases hi : inB set c with
      | true =>
        rw [hi] at hin
        have HI := Lib.hid hi
        clear hi
        obtain ⟨x, ex, hx, gx⟩ : ∃ x : Nat, (c.toNat : Int) / 16 = (x : Int) ∧ x < 16 ∧ c.toNat / 16 = x := ⟨c.toNat / 16, by omega, by omega, rfl⟩
        obtain ⟨y, ey, hy, gy⟩ : ∃ y : Nat, Go.bits .and .u8 (c.toNat : Int) 15 = (y : Int) ∧ y < 16 ∧ c.toNat % 16 = y := ⟨c.toNat % 16, and15 c, by omega, rfl⟩
        have hp : Lib.byteCells (pct c) = Lib.strCells (⟨#[37]⟩ ++ ⟨#[hexU x]⟩ ++ ⟨#[hexU y]⟩) := by
          unfold pct
          rw [gx, gy]
          rfl
        have HP := Lib.hid hp
        clear gx gy hp
        have ex1 : IntKind.u8.wrap ((x : Int) + 1) = (x : Int) + 1 := wrap_u8 _ (by omega) (by omega)
        have ey1 : IntKind.u8.wrap ((y : Int) + 1) = (y : Int) + 1 := wrap_u8 _ (by omega) (by omega)
        have rx := dig_run x hx
        have ry := dig_run y hy
        go_wp2_with (go_at_call 175; refine (hin _).mono ?_; rintro e w1 ⟨rfl, rfl⟩)
        go_still_tail 14, (by kernel_rfl)
        have hBd : Lib.IsBuilder 191 5 w.heap.size w.heap.size (Lib.byteCells (escL set (l.take k))) wr.drew := hB
        have hbd := hb.drew
        change wpList _ _ _ _ _ wr.drew
        generalize wr.drew = W2 at *
        go_wp2_with fail
        refine (wstring_c _ _ _ _ _ hBd (by exact hbl) hbd.size).mono ?_
        rintro e w2 ⟨rfl, hB2, hb2⟩
        go_wp2
        go_roundw
        case rel =>
          refine ⟨k + 1, by omega, by go_num, .inr ?_, hbd.trans hb2⟩
          rw [HST.out, HI.out, byteCells_append, if_pos rfl, HP.out]
          exact hB2
        case measure => simp [intOf]; omega
      | false =>
        rw [hi] at hin
        have HI := Lib.hid hi
        clear hi
        go_wp2_with (go_at_call 175; refine (hin _).mono ?_; rintro e w1 ⟨rfl, rfl⟩)
        refine (wbyte_c _ _ _ _ _ hB (by omega) hb.size).mono ?_
        rintro e w2 ⟨rfl, hB2, hb2⟩
        go_wp2
        go_roundw
        case rel =>
          refine ⟨k + 1, by omega, by go_num, .inr ?_, hb.trans hb2⟩
          rw [HST.out, HI.out, byteCells_append]
          exact hB2
        case measure => simp [intOf]; omega
    · obtain rfl : k = l.length := by omega
      rw [List.take_length] at hB
      go_wp2_with (go_at_call 126; refine (Tryz.Builder_String_any _ _ _ _ hB hb.size).mono ?_; rintro e w2 ⟨rfl, hb2⟩)
      go_ret
      exact ⟨rfl, hb.trans hb2⟩

theorem escL_size (set : Int) (s : ByteArray) : (escL set s.data.toList).length ≤ 3 * s.size := by
  have h := escL_length set s.data.toList
  have sz : s.size = s.data.toList.length := by rw [Array.length_toList]; rfl
  rw [← sz] at h
  exact h
/-- escape.Encode of a string's bytes. -/
theorem esc_at (set : Int) (s : ByteArray) (w : World) (n m : Nat) (hn : w.heap.size = n) (hm : s.size = m) (h0 : 0 ≤ set) (h6 : set ≤ 6) (hs : s.size ≤ 1073741824) :
    Calls Tryz.prog 115 #[.int .i64 set, .slice (some ⟨n, 0, none⟩) m (grownCap w m 0 5)] (Lib.bytesWorld w 5 s) fun e w' => e = .returned (.string ⟨(escL set s.data.toList).toArray⟩) ∧ Below w.heap.size w w' := by
  subst hn
  subst hm
  have sz : s.size = s.data.toList.length := by rw [Array.length_toList]; rfl
  have hby : BytesAt (Lib.bytesWorld w 5 s) w.heap.size 0 s.data.toList := fun j hj => by
    rw [Nat.zero_add, Lib.bytesWorld_cell w _ s j (by omega)]
  have hcap1 := grownCap_ge w s.size 0 5
  have hcap2 := grownCap_le_maxLen w s.size 0 5 (by unfold maxLen; omega)
  have hsz := Lib.bytesWorld_size w 5 s
  have hb := below_bytesWorld w 5 s
  rw [sz] at hcap1 hcap2
  have h := esc_c set s.data.toList w.heap.size 0 _ _ h0 h6 (by omega) hcap1 (by unfold maxLen at hcap2; omega) hby (by omega)
  rw [← sz] at h
  exact h.mono fun e w' ⟨he, hb'⟩ => ⟨he, hb.trans (hb'.mono hb.size)⟩
theorem esc_conv (s : ByteArray) (w : World) : (convert 9 29 (.string s)).run Tryz.prog w = .ok (.slice (some ⟨w.heap.size, 0, none⟩) s.size (grownCap w s.size 0 5)) (Lib.bytesWorld w 5 s) :=
  Lib.run_convert_string_bytes (P := Tryz.prog) w 9 29 5 s Tryz.underlying9 Tryz.underlying29 Tryz.underlying5
end Go.Proofs.YtibgiohijknmbaaGreatDoor

/-
  url.ports, Special, Default: what each call answers.
-/
namespace Go.Proofs.YtibgiohijknmbaaGreatDoor
open Go.RowKit Go.WideMaps Go.Maps
set_option linter.unusedVariables false
set_option linter.unusedSimpArgs false

theorem smap_law : Keyed Tryz.prog 9 := string_keyed Tryz.underlying9
def lint (n : Int) : DataW Unit := .lit (.int .i64 n)
def portsD : DataW Unit := ((((((DataW.map []).put (.string [102, 116, 112]) (lint 21)).put (.string [102, 105, 108, 101]) (lint (-1))).put (.string [104, 116, 116, 112]) (lint 80)).put (.string [104, 116, 116, 112, 115]) (lint 443)).put (.string [119, 115]) (lint 80)).put (.string [119, 115, 115]) (lint 443)

theorem ins_lit (w : World) (ks : Array UInt8) (z : Int) (b n : Nat) (D : DataW Unit)
    (hown : w.ownsMap Tryz.prog 9 (plainElem (H := Unit) Tryz.prog 3) b n D) (hn : n < maxLen) (hk : ks.size ≤ maxLen) (hz : (Lit.int .i64 z).wf = true) :
    ∃ w', (Instr.mapUpdate 240 (.map (some b)) (.string ⟨ks⟩) (.int .i64 z)).run Tryz.prog w = .ok () w' ∧ w'.ownsMap Tryz.prog 9 (plainElem (H := Unit) Tryz.prog 3) b (n + 1) (D.put (.string ks.toList) (lint z)) ∧ w.grownBy w' (some b) :=
  hown.update smap_law Tryz.underlying240 hn (keyOf_string_mk Tryz.underlying9 hk) (plainElem_int Tryz.underlying3 hz)

set_option maxRecDepth 100000 in
set_option maxHeartbeats 400000 in
theorem ports_c (w : World) :
    Calls Tryz.prog 168 #[] w fun e w' => ∃ b, e = .returned (.map (some b)) ∧ w'.ownsMap Tryz.prog 9 (plainElem (H := Unit) Tryz.prog 3) b 6 portsD ∧ Below w.heap.size w w' := by
  have hmm := @run_makeMap Tryz.prog
  have h0 := World.ownsMap_made w Tryz.prog 9 (plainElem (H := Unit) Tryz.prog 3)
  have b0 : Below w.heap.size w (w.alloc (.map #[] 0)) := (Below.refl _ _).alloc (Nat.le_refl _) _
  obtain ⟨w1, r1, h1, g1⟩ := ins_lit _ #[102, 116, 112] 21 w.heap.size 0 _ h0 (by unfold maxLen; omega) (by simp [maxLen]) (by decide)
  obtain ⟨w2, r2, h2, g2⟩ := ins_lit _ #[102, 105, 108, 101] (-1) w.heap.size 1 _ h1 (by unfold maxLen; omega) (by simp [maxLen]) (by decide)
  obtain ⟨w3, r3, h3, g3⟩ := ins_lit _ #[104, 116, 116, 112] 80 w.heap.size 2 _ h2 (by unfold maxLen; omega) (by simp [maxLen]) (by decide)
  obtain ⟨w4, r4, h4, g4⟩ := ins_lit _ #[104, 116, 116, 112, 115] 443 w.heap.size 3 _ h3 (by unfold maxLen; omega) (by simp [maxLen]) (by decide)
  obtain ⟨w5, r5, h5, g5⟩ := ins_lit _ #[119, 115] 80 w.heap.size 4 _ h4 (by unfold maxLen; omega) (by simp [maxLen]) (by decide)
  obtain ⟨w6, r6, h6, g6⟩ := ins_lit _ #[119, 115, 115] 443 w.heap.size 5 _ h5 (by unfold maxLen; omega) (by simp [maxLen]) (by decide)
  have e : ∀ k, some w.heap.size = some k → w.heap.size ≤ k := fun k hk => by injection hk with hk; omega
  have b1 := b0.grown g1 b0.size e
  have b2 := b1.grown g2 b1.size e
  have b3 := b2.grown g3 b2.size e
  have b4 := b3.grown g4 b3.size e
  have b5 := b4.grown g5 b4.size e
  have b6 := b5.grown g6 b5.size e
  have H6 : w6.ownsMap Tryz.prog 9 (plainElem (H := Unit) Tryz.prog 3) w.heap.size 6 portsD := h6
  clear h0 h1 h2 h3 h4 h5 h6 g1 g2 g3 g4 g5 g6 b0 b1 b2 b3 b4 b5 e
  go_enter Tryz.func168, Tryz.ntmps168
  go_wp2
  go_ret
  exact ⟨_, rfl, H6, b6⟩

/-- The special schemes. -/
def specials : List (List UInt8) := [[102, 116, 112], [102, 105, 108, 101], [104, 116, 116, 112], [104, 116, 116, 112, 115], [119, 115], [119, 115, 115]]
def specialB (s : List UInt8) : Bool := specials.any (· == s)
/-- A scheme's own port. -/
def portI (s : List UInt8) : Int := if s = [102, 116, 112] then 21 else if s = [104, 116, 116, 112] ∨ s = [119, 115] then 80 else if s = [104, 116, 116, 112, 115] ∨ s = [119, 115, 115] then 443 else -1

theorem ports_has (s : List UInt8) : Maps.has portsD (.string s) = specialB s := by
  have e : portsD = .map [(.string [102, 105, 108, 101], lint (-1)), (.string [102, 116, 112], lint 21), (.string [104, 116, 116, 112], lint 80), (.string [104, 116, 116, 112, 115], lint 443), (.string [119, 115], lint 80), (.string [119, 115, 115], lint 443)] := by rfl
  rw [e, Maps.has_eq]
  simp only [List.any_cons, List.any_nil, Bool.or_false, Lit.sameKey, specialB, specials]
  rw [Bool.eq_iff_iff]
  simp
  constructor <;> (intro h; rcases h with h | h | h | h | h | h <;> subst h <;> simp)
theorem special_true {s : List UInt8} : specialB s = true ↔ s ∈ specials := by simp [specialB, specials]; constructor <;> (intro h; rcases h with h | h | h | h | h | h <;> subst h <;> simp)

theorem ports_at (s : List UInt8) : DataW.atKey portsD (.string s) (lint 0) = if specialB s = true then lint (portI s) else lint 0 := by
  have e : portsD = .map [(.string [102, 105, 108, 101], lint (-1)), (.string [102, 116, 112], lint 21), (.string [104, 116, 116, 112], lint 80), (.string [104, 116, 116, 112, 115], lint 443), (.string [119, 115], lint 80), (.string [119, 115, 115], lint 443)] := by rfl
  rw [e]
  by_cases h : specialB s = true
  · rw [if_pos h]
    have := special_true.1 h
    simp only [specials, List.mem_cons, List.not_mem_nil, or_false] at this
    rcases this with rfl | rfl | rfl | rfl | rfl | rfl <;> rfl
  · rw [if_neg h]
    have hn : ∀ x ∈ specials, x ≠ s := fun x hx e => h (special_true.2 (e ▸ hx))
    simp only [DataW.atKey]
    rw [List.find?_eq_none.2]
    have h1 := hn [102, 116, 112] (by simp [specials])
    have h2 := hn [102, 105, 108, 101] (by simp [specials])
    have h3 := hn [104, 116, 116, 112] (by simp [specials])
    have h4 := hn [104, 116, 116, 112, 115] (by simp [specials])
    have h5 := hn [119, 115] (by simp [specials])
    have h6 := hn [119, 115, 115] (by simp [specials])
    intro p hp
    simp only [List.mem_cons, List.not_mem_nil, or_false] at hp
    rcases hp with rfl | rfl | rfl | rfl | rfl | rfl <;> (simp only [Lit.sameKey]; simpa using (by assumption))

theorem zero_int (w : World) : (zeroValue 3).run Tryz.prog w = .ok (.int .i64 0) w := by kernel_rfl
theorem ports_look {w : World} {b n : Nat} (hown : w.ownsMap Tryz.prog 9 (plainElem (H := Unit) Tryz.prog 3) b n portsD) (s : ByteArray) (hs : s.size ≤ maxLen) :
    ∃ z : Int, (Instr.lookup 240 (.map (some b)) (.string s) true).run Tryz.prog w = .ok (.tuple #[.int .i64 z, .bool (specialB s.data.toList)]) w ∧ (specialB s.data.toList = true → z = portI s.data.toList) := by
  obtain ⟨v, ps, hrun, hv⟩ := hown.look_ok smap_law Tryz.underlying240 (zero_int w) (plainElem_int Tryz.underlying3 (by decide)) (keyOf_string_mk Tryz.underlying9 hs)
  obtain ⟨c, rfl, hc, hwc⟩ := plainElem_int_inv Tryz.underlying3 hv
  rw [ports_has] at hrun
  refine ⟨c, hrun, fun h => ?_⟩
  have h1 := congrArg Prod.fst hc
  have h2 := ports_at s.data.toList
  rw [if_pos h] at h2
  have h3 : (lint c : DataW Unit) = lint (portI s.data.toList) := by
    show DataW.lit (.int .i64 c) = _
    rw [← h2]
    exact h1.symm
  simpa [lint] using h3

set_option maxHeartbeats 400000 in
theorem special_c (s : ByteArray) (w : World) (hs : s.size ≤ maxLen) :
    Calls Tryz.prog 107 #[.string s] w fun e w' => e = .returned (.bool (specialB s.data.toList)) ∧ Below w.heap.size w w' := by
  go_enter Tryz.func107, Tryz.ntmps107
  go_wp2_with fail
  refine (ports_c _).mono ?_
  rintro e w1 ⟨b, rfl, hown, hb⟩
  obtain ⟨z, hl, hz⟩ := ports_look hown s hs
  clear hz hown
  go_wp2
  go_ret
  exact ⟨rfl, hb⟩

def defaultI (s : List UInt8) : Int := if specialB s = true then portI s else -1
set_option maxHeartbeats 400000 in
theorem default_c (s : ByteArray) (w : World) (hs : s.size ≤ maxLen) :
    Calls Tryz.prog 287 #[.string s] w fun e w' => e = .returned (.int .i64 (defaultI s.data.toList)) ∧ Below w.heap.size w w' := by
  have hd : defaultI s.data.toList = if specialB s.data.toList = true then portI s.data.toList else -1 := rfl
  generalize defaultI s.data.toList = d at *
  have HD := Lib.hid hd
  clear hd
  go_enter Tryz.func287, Tryz.ntmps287
  go_wp2_with fail
  refine (ports_c _).mono ?_
  rintro e w1 ⟨b, rfl, hown, hb⟩
  obtain ⟨z, hl, hz⟩ := ports_look hown s hs
  clear hown
  cases hsp : specialB s.data.toList with
  | true =>
    rw [hsp] at hl
    have hz' := hz hsp
    have h := HD.out
    rw [if_pos hsp, ← hz'] at h
    subst h
    clear hz hsp hz' HD
    go_wp2
    go_ret
    exact ⟨rfl, hb⟩
  | false =>
    rw [hsp] at hl
    have h := HD.out
    rw [if_neg (by rw [hsp]; decide)] at h
    subst h
    clear hz hsp HD
    go_wp2
    go_ret
    exact ⟨rfl, hb⟩
end Go.Proofs.YtibgiohijknmbaaGreatDoor
