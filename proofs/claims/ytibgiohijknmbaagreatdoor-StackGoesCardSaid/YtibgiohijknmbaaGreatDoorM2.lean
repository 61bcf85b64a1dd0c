/-
  Joined texts: PState, RepL, POpq, PSch, Utf, First, Decode, Encode.
-/
import Derived.Test.YtibgiohijknmbaaGreatDoorM1
import Derived.Laws.Rows
import Derived.Lib.Builder
import Derived.Maps.AppendAt
import Derived.Deep.AppendLies
import Derived.OwnWalk
import Derived.Deep.QuietTactic
import Derived.BigQuiet
import Derived.Lib.Strings
import Derived.Test.YtibgiohijknmbaaGreatDoorProg
import Derived.Test.YtibgiohijknmbaaGreatDoorShelfD
import Derived.Deep.LoopGhost
import Derived.Test.YtibgiohijknmbaaGreatDoorShelf
import Derived.Lib.RuneBytes
/-
  The parser's state in memory; slashes, based: what each call answers.
-/
namespace Go.Proofs.YtibgiohijknmbaaGreatDoor
open Go.RowKit
set_option linter.unusedVariables false
set_option linter.unusedSimpArgs false

/-- A parser: its URL's parts, and what is left to read. -/
structure PSt where
  sch : ByteArray
  user : ByteArray
  pass : ByteArray
  host : ByteArray
  hasHost : Bool
  port : Int
  opq : Bool
  text : ByteArray
  path : Value
  hasQ : Bool
  hasF : Bool
  query : ByteArray
  frag : ByteArray
  rest : ByteArray
  q : ByteArray
  f : ByteArray
  bad : Bool
def PSt.cells (p : PSt) : Array Value :=
  #[.string p.sch, .string p.user, .string p.pass, .string p.host, .bool p.hasHost, .int .i64 p.port, .bool p.opq, .string p.text, p.path, .bool p.hasQ, .bool p.hasF, .string p.query, .string p.frag,
    .pointer none, .string p.rest, .string p.q, .string p.f, .bool p.bad]
def ParserAt (w : World) (b : Nat) (p : PSt) : Prop := w.heap[b]? = some (.cells p.cells 115 (0, 0))
theorem ParserAt.lt {w : World} {b : Nat} {p : PSt} (h : ParserAt w b p) : b < w.heap.size := by
  rcases Nat.lt_or_ge b w.heap.size with h' | h'
  · exact h'
  · have h : w.heap[b]? = _ := h
    simp [Array.getElem?_eq_none h'] at h
theorem ParserAt.cell {w : World} {b : Nat} {p : PSt} (h : ParserAt w b p) (j : Nat) : w.cell? ⟨b, j, none⟩ = p.cells[j]? := Lib.cell_of_heap h j
theorem ParserAt.free {w : World} {b : Nat} {p : PSt} (h : ParserAt w b p) (j : Nat) : w.frozen? ⟨b, j, none⟩ = false := frozen_of_row w b j _ _ h
theorem ParserAt.below {w w' : World} {b : Nat} {p : PSt} (h : ParserAt w b p) (k : Below w.heap.size w w') : ParserAt w' b p := (k.block b h.lt).trans h
theorem ParserAt.set {w : World} {b j : Nat} {p p' : PSt} {v : Value} (h : ParserAt w b p) (e : p.cells.setIfInBounds j v = p'.cells) : ParserAt (w.setCell ⟨b, j, none⟩ v) b p' := by
  have := heap_setCell_same w b j _ _ v h
  rw [e] at this
  exact this
theorem grown_below {w w' : World} (h : Below w.heap.size w w') (row : Option Nat) : w.grownBy w' row := ⟨h.os, h.tape, h.output, h.size, fun i hi _ => h.block i hi⟩
theorem grown_set {w w' : World} {b : Nat} (h : w.grownBy w' (some b)) (j : Nat) (v : Value) : w.grownBy (w'.setCell ⟨b, j, none⟩ v) (some b) :=
  ⟨h.os, h.tape, h.output, by simpa [World.setCell] using h.size, fun i hi hne => by rw [heap_setCell_other _ _ _ _ (fun e => hne (by rw [e]))]; exact h.block i hi hne⟩
theorem grown_drewN {w w' : World} {row : Option Nat} (h : w.grownBy w' row) (n : Nat) : w.grownBy (w'.drewN n) row := ⟨h.os, h.tape, h.output, h.size, h.block⟩
theorem below_cells {W w1 : World} (hb : Below W.heap.size W w1) : (∀ b o, b < W.heap.size → w1.cell? ⟨b, o, none⟩ = W.cell? ⟨b, o, none⟩) ∧ (∀ b o, b < W.heap.size → w1.frozen? ⟨b, o, none⟩ = W.frozen? ⟨b, o, none⟩) :=
  ⟨fun b o h => hb.cell (p := ⟨b, o, none⟩) h, fun b o h => hb.frozen (p := ⟨b, o, none⟩) h⟩
theorem below_drewN (w : World) (n : Nat) : Below w.heap.size w (w.drewN n) := ⟨rfl, rfl, rfl, Nat.le_refl _, fun _ _ => rfl⟩

def slashesF (sch : List UInt8) : ByteArray := if specialB sch = true then ⟨#[47, 92]⟩ else ⟨#[47]⟩
set_option maxHeartbeats 400000 in
theorem slashes_c (p : PSt) (b : Nat) (w : World) (h : ParserAt w b p) (hs : p.sch.size ≤ maxLen) :
    Calls Tryz.prog 112 #[.pointer (some ⟨b, 0, none⟩)] w fun e w' => e = .returned (.string (slashesF p.sch.data.toList)) ∧ Below w.heap.size w w' := by
  have hc := h.cell 0
  simp only [PSt.cells] at hc
  unfold slashesF
  cases hsp : specialB p.sch.data.toList with
  | true =>
    have HS := Lib.hid hsp
    clear hsp
    go_enter Tryz.func112, Tryz.ntmps112
    go_wp2_with (go_at_call 107; refine (special_c _ _ hs).mono ?_; rintro e w1 ⟨rfl, hb⟩; rw [HS.out])
    go_ret
    exact ⟨rfl, hb⟩
  | false =>
    have HS := Lib.hid hsp
    clear hsp
    go_enter Tryz.func112, Tryz.ntmps112
    go_wp2_with (go_at_call 107; refine (special_c _ _ hs).mono ?_; rintro e w1 ⟨rfl, hb⟩; rw [HS.out])
    go_ret
    exact ⟨rfl, hb⟩

/-- Without a base no scheme is the base's. -/
theorem based_c (p : PSt) (b : Nat) (s : ByteArray) (w : World) (h : ParserAt w b p) :
    Calls Tryz.prog 105 #[.pointer (some ⟨b, 0, none⟩), .string s] w fun e w' => e = .returned (.bool false) ∧ w = w' := by
  have hc := h.cell 13
  simp only [PSt.cells] at hc
  go_enter Tryz.func105, Tryz.ntmps105
  go_wp2
  go_ret
  exact ⟨rfl, rfl⟩
end Go.Proofs.YtibgiohijknmbaaGreatDoor

/-
  What a replacer over single bytes makes of a text: plain lists.
-/
namespace Go.Proofs.YtibgiohijknmbaaGreatDoor
open Go.RowKit
set_option linter.unusedVariables false
set_option linter.unusedSimpArgs false

def rep1 (ps : Pairs) (c : UInt8) : List UInt8 := (look ps c).getD [c]
def repL (ps : Pairs) (s : List UInt8) : List UInt8 := s.flatMap (rep1 ps)
def gain (ps : Pairs) (s : List UInt8) : Int := ((repL ps s).length : Int) - (s.length : Int)
def chg (ps : Pairs) (s : List UInt8) : Bool := s.any fun c => (look ps c).isSome
def gsum (l : Pairs) (s : List UInt8) : Int := (l.map fun p => ((s.count p.1 : Nat) : Int) * ((p.2.length : Int) - 1)).sum
def gany (l : Pairs) (s : List UInt8) : Bool := l.any fun p => s.count p.1 != 0

theorem repL_append (ps : Pairs) (a b : List UInt8) : repL ps (a ++ b) = repL ps a ++ repL ps b := by simp [repL]
theorem repL_one (ps : Pairs) (c : UInt8) : repL ps [c] = rep1 ps c := by simp [repL]
theorem gain_snoc (ps : Pairs) (l : List UInt8) (c : UInt8) : gain ps (l ++ [c]) = gain ps l + (((rep1 ps c).length : Int) - 1) := by
  unfold gain
  rw [repL_append, repL_one]
  simp only [List.length_append, List.length_singleton]
  omega
theorem chg_snoc (ps : Pairs) (l : List UInt8) (c : UInt8) : chg ps (l ++ [c]) = (chg ps l || (look ps c).isSome) := by simp [chg]
theorem chg_false (ps : Pairs) (s : List UInt8) (h : chg ps s = false) : repL ps s = s := by
  induction s with
  | nil => rfl
  | cons c t ih =>
    have e : chg ps (c :: t) = ((look ps c).isSome || chg ps t) := by simp [chg]
    rw [e, Bool.or_eq_false_iff] at h
    have e2 : repL ps (c :: t) = rep1 ps c ++ repL ps t := by simp [repL]
    rw [e2, ih h.2]
    have : look ps c = none := by simpa using h.1
    simp [rep1, this]
theorem gain_cons (ps : Pairs) (c : UInt8) (t : List UInt8) : gain ps (c :: t) = gain ps t + (((rep1 ps c).length : Int) - 1) := by
  unfold gain
  have e2 : repL ps (c :: t) = rep1 ps c ++ repL ps t := by simp [repL]
  rw [e2]
  simp only [List.length_append, List.length_cons]
  omega
theorem look_none (ps : Pairs) (c : UInt8) (h : c ∉ ps.map (·.1)) : look ps c = none := by
  unfold look
  rw [List.find?_eq_none.2]
  · rfl
  · intro p hp hpe
    exact h (List.mem_map.2 ⟨p, hp, by simpa using hpe⟩)
theorem gain_pair (p : UInt8 × List UInt8) (ps : Pairs) (h : p.1 ∉ ps.map (·.1)) (s : List UInt8) :
    gain (p :: ps) s = ((s.count p.1 : Nat) : Int) * ((p.2.length : Int) - 1) + gain ps s := by
  induction s with
  | nil => simp [gain, repL]
  | cons c t ih =>
    rw [gain_cons, gain_cons, ih, List.count_cons]
    by_cases e : c = p.1
    · subst e
      have h1 : rep1 (p :: ps) p.1 = p.2 := by simp [rep1, look]
      have h2 : rep1 ps p.1 = [p.1] := by simp [rep1, look_none ps _ h]
      rw [h1, h2]
      simp only [beq_self_eq_true, if_true, List.length_singleton, Int.natCast_add, Int.natCast_one, Int.add_mul, Int.one_mul]
      omega
    · have h1 : rep1 (p :: ps) c = rep1 ps c := by simp [rep1, look, Ne.symm e]
      rw [h1]
      simp [e]
      omega
theorem gain_gsum (ps : Pairs) (h : (ps.map (·.1)).Nodup) (s : List UInt8) : gain ps s = gsum ps s := by
  induction ps with
  | nil =>
    have h0 := chg_false [] s (by simp [chg, look])
    unfold gain
    rw [h0]
    simp [gsum]
  | cons p t ih =>
    rw [List.map_cons, List.nodup_cons] at h
    rw [gain_pair p t h.1 s, ih h.2]
    simp [gsum]
theorem chg_gany (ps : Pairs) (s : List UInt8) : chg ps s = gany ps s := by
  rw [Bool.eq_iff_iff]
  unfold chg gany
  simp only [List.any_eq_true, bne_iff_ne, ne_eq, List.count_eq_zero]
  constructor
  · rintro ⟨c, hc, hs⟩
    obtain ⟨n, hn⟩ := Option.isSome_iff_exists.1 hs
    unfold look at hn
    obtain ⟨p, hp, rfl⟩ := Option.map_eq_some_iff.1 hn
    have h1 := List.mem_of_find?_eq_some hp
    have h2 := List.find?_some hp
    exact ⟨p, h1, fun h => h (by rw [show p.1 = c by simpa using h2]; exact hc)⟩
  · rintro ⟨p, hp, hs⟩
    refine ⟨p.1, Classical.not_not.1 hs, ?_⟩
    unfold look
    rw [Option.isSome_map]
    exact List.find?_isSome.2 ⟨p, hp, by simp⟩
theorem gsum_reverse (l : Pairs) (s : List UInt8) : gsum l.reverse s = gsum l s := by
  unfold gsum
  rw [List.map_reverse, List.sum_reverse]
theorem gany_reverse (l : Pairs) (s : List UInt8) : gany l.reverse s = gany l s := by simp [gany]
theorem gsum_snoc (l : Pairs) (p : UInt8 × List UInt8) (s : List UInt8) : gsum (l ++ [p]) s = gsum l s + ((s.count p.1 : Nat) : Int) * ((p.2.length : Int) - 1) := by simp [gsum]
theorem gany_snoc (l : Pairs) (p : UInt8 × List UInt8) (s : List UInt8) : gany (l ++ [p]) s = (gany l s || (s.count p.1 != 0)) := by simp [gany]
theorem look_long (ps : Pairs) (c : UInt8) (n : List UInt8) (h : ∀ p ∈ ps, p.2.length ≤ 1000) (hl : look ps c = some n) : n.length ≤ 1000 := by
  unfold look at hl
  obtain ⟨p, hp, rfl⟩ := Option.map_eq_some_iff.1 hl
  exact h p (List.mem_of_find?_eq_some hp)
theorem rep1_le (ps : Pairs) (c : UInt8) (h : ∀ p ∈ ps, p.2.length ≤ 1000) : (rep1 ps c).length ≤ 1000 := by
  unfold rep1
  cases e : look ps c with
  | none => simp
  | some n => exact look_long ps c n h e
theorem repL_le (ps : Pairs) (h : ∀ p ∈ ps, p.2.length ≤ 1000) (s : List UInt8) : (repL ps s).length ≤ 1000 * s.length := by
  induction s with
  | nil => simp [repL]
  | cons c t ih =>
    have e2 : repL ps (c :: t) = rep1 ps c ++ repL ps t := by simp [repL]
    have := rep1_le ps c h
    rw [e2, List.length_append, List.length_cons]
    omega
theorem repL_take_le (ps : Pairs) (s : List UInt8) (k : Nat) (hk : k < s.length) : (repL ps (s.take k)).length + (rep1 ps (s.getD k 0)).length ≤ (repL ps s).length := by
  have e : s = s.take k ++ (s.getD k 0 :: s.drop (k + 1)) := by
    have : s.drop k = s.getD k 0 :: s.drop (k + 1) := by
      rw [List.drop_eq_getElem_cons hk, List.getD_eq_getElem?_getD, List.getElem?_eq_getElem hk]
      rfl
    rw [← this, List.take_append_drop]
  have e2 : repL ps s = repL ps (s.take k) ++ (rep1 ps (s.getD k 0) ++ repL ps (s.drop (k + 1))) := by
    conv => lhs; rw [e]
    rw [repL_append]
    congr 1
  rw [e2]
  simp only [List.length_append]
  omega
theorem strOfNums_bytes (l : List UInt8) : strOfNums (l.map fun b => ((b.toNat : Nat) : Int)) = ⟨l.toArray⟩ := by
  unfold strOfNums
  rw [List.map_map]
  congr 2
  conv => rhs; rw [← List.map_id l]
  refine List.map_congr_left fun b _ => ?_
  simp
theorem self_bytes (s : ByteArray) : s = ⟨s.data.toList.toArray⟩ := by cases s; simp
theorem take_set_snoc (dst : List Value) (j : Nat) (v : Value) (h : j < dst.length) : (dst.set j v).take (j + 1) = dst.take j ++ [v] := by
  rw [List.take_succ_eq_append_getElem (by simpa using h), List.take_set_of_le (Nat.le_refl _)]
  simp
theorem mul_bound (c x M : Int) (h0 : 0 ≤ c) (h1 : c ≤ M) (h2 : -1 ≤ x) (h3 : x ≤ 999) : -M ≤ c * x ∧ c * x ≤ 999 * M := by
  have a := Int.mul_le_mul_of_nonneg_left h2 h0
  have b := Int.mul_le_mul_of_nonneg_left h3 h0
  omega
theorem gsum_bound (l : Pairs) (s : List UInt8) (hs : s.length ≤ 4294967296) (h : ∀ p ∈ l, p.2.length ≤ 1000) : -((l.length : Int) * 4294967296) ≤ gsum l s ∧ gsum l s ≤ (l.length : Int) * 4294967296000 := by
  induction l with
  | nil => simp [gsum]
  | cons p t ih =>
    have ih := ih fun q hq => h q (List.mem_cons_of_mem _ hq)
    have hp := h p List.mem_cons_self
    have hc := List.count_le_length (a := p.1) (l := s)
    have hb := mul_bound ((s.count p.1 : Nat) : Int) ((p.2.length : Int) - 1) 4294967296 (by omega) (by omega) (by omega) (by omega)
    have e : gsum (p :: t) s = ((s.count p.1 : Nat) : Int) * ((p.2.length : Int) - 1) + gsum t s := by simp [gsum]
    rw [e, List.length_cons]
    generalize ((s.count p.1 : Nat) : Int) * ((p.2.length : Int) - 1) = z at *
    omega
end Go.Proofs.YtibgiohijknmbaaGreatDoor

/-
  parser.finish, parser.opaque, parser.schemed where the path is opaque.
-/
namespace Go.Proofs.YtibgiohijknmbaaGreatDoor
open Go.RowKit
set_option linter.unusedVariables false
set_option linter.unusedSimpArgs false

def bstr (l : List UInt8) : ByteArray := ⟨l.toArray⟩
def escS (set : Int) (s : ByteArray) : ByteArray := ⟨(escL set s.data.toList).toArray⟩
def querySet (p : PSt) : Int := if specialB p.sch.data.toList = true then 3 else 2
def PSt.finish (p : PSt) : PSt := { p with query := if p.q = ⟨#[]⟩ then p.query else escS (querySet p) p.q, frag := escS 1 p.f }

set_option maxRecDepth 100000 in
set_option maxHeartbeats 1000000 in
/-- finish, from its second half on: the fragment. -/
theorem finish_c (p : PSt) (b : Nat) (w : World) (h : ParserAt w b p) (hs : p.sch.size ≤ maxLen) (hq : p.q.size ≤ 1073741824) (hf : p.f.size ≤ 1073741824) :
    Calls Tryz.prog 59 #[.pointer (some ⟨b, 0, none⟩)] w fun e w' => e = .returned (.tuple #[]) ∧ ParserAt w' b p.finish ∧ w.grownBy w' (some b) := by
  have hbw := h.lt
  have c0 := h.cell 0
  have c15 := h.cell 15
  have c16 := h.cell 16
  simp only [PSt.cells] at c0 c15 c16
  have c11 := h.cell 11
  have c12 := h.cell 12
  simp only [PSt.cells] at c11 c12
  have fz := fun j => h.free j
  have hp : p.finish = { p with query := if p.q = ⟨#[]⟩ then p.query else escS (querySet p) p.q, frag := escS 1 p.f } := rfl
  have hset : 0 ≤ querySet p ∧ querySet p ≤ 6 := by unfold querySet; split <;> omega
  have hqs : querySet p = if specialB p.sch.data.toList = true then 3 else 2 := rfl
  generalize p.finish = p' at *
  have HP := Lib.hid hp
  generalize querySet p = set at *
  have HS := Lib.hid hqs
  clear hp hqs
  have hcv := fun W => esc_conv p.f W
  by_cases hq0 : p.q = ⟨#[]⟩
  · rw [hq0] at c15
    have HQ := Lib.hid hq0
    clear hq0 hq c11
    go_enter Tryz.func59, Tryz.ntmps59
    go_wp2_with (go_at_call 107; refine (special_c _ _ hs).mono ?_; rintro e w1 ⟨rfl, hb⟩; obtain ⟨hk, hz⟩ := below_cells hb)
    all_goals
      refine (esc_at 1 p.f w1 _ _ rfl rfl (by decide) (by decide) hf).mono ?_
      rintro e w2 ⟨rfl, hb2⟩
      have hB := hb.trans (hb2.mono hb.size)
      obtain ⟨hk2, hz2⟩ := below_cells hB
      have hP2 := h.below hB
      go_wp2
      go_end0
      exact ⟨rfl, hP2.set (by rw [HP.out]; simp [PSt.cells, HQ.out, escS]), grown_set (grown_below hB _) _ _⟩
  · have hqe : p.q.toList.isEmpty = false := by
      rw [ByteArray.toList_eq]
      cases hl : p.q.data.toList with
      | nil =>
        refine absurd ?_ hq0
        have e := self_bytes p.q
        rw [hl] at e
        exact e
      | cons _ _ => rfl
    have HQ := Lib.hid hq0
    have hq1 : ¬ p.q = ⟨#[]⟩ := hq0
    have hcq := fun W => esc_conv p.q W
    clear hq0
    cases hsp : specialB p.sch.data.toList with
    | true =>
      have hset : set = 3 := by rw [HS.out, if_pos hsp]
      have HS := Lib.hid hset
      have HSP := Lib.hid hsp
      clear hsp hset
      go_enter Tryz.func59, Tryz.ntmps59
      go_wp2_with (go_at_call 107; refine (special_c _ _ hs).mono ?_; rintro e w1 ⟨rfl, hb⟩; obtain ⟨hk, hz⟩ := below_cells hb; rw [HSP.out])
      refine (esc_at 3 p.q w1 _ _ rfl rfl (by decide) (by decide) hq).mono ?_
      rintro e w2 ⟨rfl, hb2⟩
      have hB := hb.trans (hb2.mono hb.size)
      obtain ⟨hk2, hz2⟩ := below_cells hB
      have hP2 := (h.below hB).set (j := 11) (v := .string ⟨(escL 3 p.q.data.toList).toArray⟩) (p' := { p with query := escS 3 p.q }) (by simp [PSt.cells, escS])
      have hG2 := grown_set (grown_below hB (some b)) 11 (.string ⟨(escL 3 p.q.data.toList).toArray⟩)
      clear hk hz hb hb2
      go_wp2_with fail
      refine (esc_at 1 p.f (w2.setCell ⟨b, 11, none⟩ (.string ⟨(escL 3 p.q.data.toList).toArray⟩)) w2.heap.size _ (by simp [World.setCell]) rfl (by decide) (by decide) hf).mono ?_
      rintro e w3 ⟨rfl, hb3⟩
      have hP3 := hP2.below hb3
      have hG3 := hG2.trans (grown_below hb3 (some b))
      have hlt3 : b < w3.heap.size := hP3.lt
      have k12 := hP3.cell 12
      simp only [PSt.cells] at k12
      have fz3 := hP3.free 12
      clear hk2 hz2 hB
      go_wp2
      go_end0
      exact ⟨rfl, hP3.set (by rw [HP.out, HS.out]; simp [PSt.cells, HQ.out, escS]), grown_set hG3 _ _⟩
    | false =>
      have hset : set = 2 := by rw [HS.out, if_neg (by rw [hsp]; decide)]
      have HS := Lib.hid hset
      have HSP := Lib.hid hsp
      clear hsp hset
      go_enter Tryz.func59, Tryz.ntmps59
      go_wp2_with (go_at_call 107; refine (special_c _ _ hs).mono ?_; rintro e w1 ⟨rfl, hb⟩; obtain ⟨hk, hz⟩ := below_cells hb; rw [HSP.out])
      refine (esc_at 2 p.q w1 _ _ rfl rfl (by decide) (by decide) hq).mono ?_
      rintro e w2 ⟨rfl, hb2⟩
      have hB := hb.trans (hb2.mono hb.size)
      obtain ⟨hk2, hz2⟩ := below_cells hB
      have hP2 := (h.below hB).set (j := 11) (v := .string ⟨(escL 2 p.q.data.toList).toArray⟩) (p' := { p with query := escS 2 p.q }) (by simp [PSt.cells, escS])
      have hG2 := grown_set (grown_below hB (some b)) 11 (.string ⟨(escL 2 p.q.data.toList).toArray⟩)
      clear hk hz hb hb2
      go_wp2_with fail
      refine (esc_at 1 p.f (w2.setCell ⟨b, 11, none⟩ (.string ⟨(escL 2 p.q.data.toList).toArray⟩)) w2.heap.size _ (by simp [World.setCell]) rfl (by decide) (by decide) hf).mono ?_
      rintro e w3 ⟨rfl, hb3⟩
      have hP3 := hP2.below hb3
      have hG3 := hG2.trans (grown_below hb3 (some b))
      have hlt3 : b < w3.heap.size := hP3.lt
      have k12 := hP3.cell 12
      simp only [PSt.cells] at k12
      have fz3 := hP3.free 12
      clear hk2 hz2 hB
      go_wp2
      go_end0
      exact ⟨rfl, hP3.set (by rw [HP.out, HS.out]; simp [PSt.cells, HQ.out, escS]), grown_set hG3 _ _⟩

/-! an opaque path -/
def opqS (more : Bool) (s : ByteArray) : ByteArray :=
  if more = true ∧ Lib.hasSuffix s.data.toList [32] = true then ⟨(escL 0 s.data.toList.dropLast).toArray⟩ ++ ⟨#[37, 50, 48]⟩ else escS 0 s ++ ⟨#[]⟩
def PSt.opqd (p : PSt) : PSt := { p with opq := true, text := opqS (p.hasQ || p.hasF) p.rest }

theorem suffix_size {s : ByteArray} (h : Lib.hasSuffix s.data.toList [32] = true) : 1 ≤ s.size := by
  have sz : s.size = s.data.toList.length := by rw [Array.length_toList]; rfl
  rw [sz]
  unfold Lib.hasSuffix at h
  have := (List.isSuffixOf_iff_suffix.1 h).length_le
  simpa using this

set_option maxRecDepth 100000 in
set_option maxHeartbeats 1000000 in
theorem opaque_c (p : PSt) (b : Nat) (w : World) (h : ParserAt w b p) (hr : p.rest.size ≤ 1073741824) :
    Calls Tryz.prog 114 #[.pointer (some ⟨b, 0, none⟩)] w fun e w' => e = .returned (.tuple #[]) ∧ ParserAt w' b p.opqd ∧ w.grownBy w' (some b) := by
  have hbw := h.lt
  have c14 : w.cell? ⟨b, 14, none⟩ = some (.string p.rest) := h.cell 14
  have c9 : w.cell? ⟨b, 9, none⟩ = some (.bool p.hasQ) := h.cell 9
  have c10 : w.cell? ⟨b, 10, none⟩ = some (.bool p.hasF) := h.cell 10
  have c6 : w.cell? ⟨b, 6, none⟩ = some (.bool p.opq) := h.cell 6
  have c7 : w.cell? ⟨b, 7, none⟩ = some (.string p.text) := h.cell 7
  have fz := fun j => h.free j
  have hp : p.opqd = { p with opq := true, text := opqS (p.hasQ || p.hasF) p.rest } := rfl
  have hcv := fun s W => esc_conv s W
  generalize p.opqd = p' at *
  have HP := Lib.hid hp
  clear hp
  have hsx := fun W => Tryz.strings_HasSuffix p.rest ⟨#[32]⟩ W (by omega)
  have e32 : (⟨#[32]⟩ : ByteArray).data.toList = [32] := rfl
  rw [e32] at hsx
  clear e32
  generalize hQ : p.hasQ = bq at *
  generalize hF : p.hasF = bf at *
  have HQ := Lib.hid hQ
  have HF := Lib.hid hF
  clear hQ hF
  have hend : ∀ (w2 : World) (t : ByteArray), Below w.heap.size w w2 → t = opqS (bq || bf) p.rest → ParserAt ((w2.setCell ⟨b, 6, none⟩ (.bool true)).setCell ⟨b, 7, none⟩ (.string t)) b p' ∧ w.grownBy ((w2.setCell ⟨b, 6, none⟩ (.bool true)).setCell ⟨b, 7, none⟩ (.string t)) (some b) := fun w2 t hB ht => by
    refine ⟨?_, grown_set (grown_set (grown_below hB _) _ _) _ _⟩
    refine ParserAt.set (p := { p with opq := true }) (ParserAt.set (p := p) (h.below hB) (by simp [PSt.cells])) ?_
    rw [HP.out, ht]
    simp [PSt.cells, HQ.out, HF.out]
  have HE := Lib.hid hend
  clear hend
  have hsz : p.rest.data.toList.length = p.rest.size := by rw [Array.length_toList]; rfl
  by_cases hm : (bq || bf) = true
  · by_cases hx : Lib.hasSuffix p.rest.data.toList [32] = true
    · have h1 := suffix_size hx
      have hre : opqS (bq || bf) p.rest = ⟨(escL 0 p.rest.data.toList.dropLast).toArray⟩ ++ ⟨#[37, 50, 48]⟩ := by unfold opqS; rw [if_pos ⟨hm, hx⟩]
      have HR := Lib.hid hre
      have hsx' : ∀ W, Calls Tryz.prog 174 #[.string p.rest, .string ⟨#[32]⟩] W fun e w' => e = .returned (.bool true) ∧ w' = W := by rw [hx] at hsx; exact hsx
      have hse : (p.rest.extract 0 (p.rest.size - 1)).size = p.rest.size - 1 := by rw [ByteArray.size_extract]; omega
      have hes : (p.rest.extract 0 (p.rest.size - 1)).size ≤ 1073741824 := by rw [hse]; omega
      have hln : (escL 0 p.rest.data.toList.dropLast).length + 3 ≤ 9223372036854775807 := by
        have := escL_length 0 p.rest.data.toList.dropLast
        rw [List.length_dropLast] at this
        omega
      clear hre hsx hx h hsz
      have hbb : (bq = true) ∨ (bq = false ∧ bf = true) := by cases bq <;> cases bf <;> simp_all
      clear hm
      rcases hbb with rfl | ⟨rfl, rfl⟩
      all_goals
        go_enter Tryz.func114, Tryz.ntmps114
        go_wp2
        go_quiet (fail)
        go_wp2_with fail
        refine (hsx' _).mono ?_
        rintro e w' ⟨rfl, rfl⟩
        go_wp2_with fail
        refine (esc_at 0 (p.rest.extract 0 (p.rest.size - 1)) _ w.heap.size _ (by rfl) hse (by decide) (by decide) hes).mono ?_
        rintro e w2 ⟨rfl, hb2⟩
        have hB := (below_drewN w _).trans hb2
        obtain ⟨hk2, hz2⟩ := below_cells hB
        go_wp2
        go_end0
        exact ⟨rfl, HE.out _ _ hB HR.out.symm⟩
    · have hre : opqS (bq || bf) p.rest = escS 0 p.rest ++ ⟨#[]⟩ := by unfold opqS; rw [if_neg (fun hh => hx hh.2)]
      have HR := Lib.hid hre
      have hx' : Lib.hasSuffix p.rest.data.toList [32] = false := by simpa using hx
      have hsx' : ∀ W, Calls Tryz.prog 174 #[.string p.rest, .string ⟨#[32]⟩] W fun e w' => e = .returned (.bool false) ∧ w' = W := by rw [hx'] at hsx; exact hsx
      have hln : (escL 0 p.rest.data.toList).length ≤ 9223372036854775807 := by
        have := escL_size 0 p.rest
        omega
      clear hre hsx hx hx' h hsz
      have hbb : (bq = true) ∨ (bq = false ∧ bf = true) := by cases bq <;> cases bf <;> simp_all
      clear hm
      rcases hbb with rfl | ⟨rfl, rfl⟩
      all_goals
        go_enter Tryz.func114, Tryz.ntmps114
        go_wp2
        go_quiet (fail)
        go_wp2_with fail
        refine (hsx' _).mono ?_
        rintro e w' ⟨rfl, rfl⟩
        go_wp2_with fail
        refine (esc_at 0 p.rest _ w.heap.size _ (by rfl) rfl (by decide) (by decide) hr).mono ?_
        rintro e w2 ⟨rfl, hb2⟩
        have hB := (below_drewN w _).trans hb2
        obtain ⟨hk2, hz2⟩ := below_cells hB
        go_wp2
        go_end0
        exact ⟨rfl, HE.out _ _ hB HR.out.symm⟩
  · have hre : opqS (bq || bf) p.rest = escS 0 p.rest ++ ⟨#[]⟩ := by unfold opqS; rw [if_neg (fun hh => hm hh.1)]
    have HR := Lib.hid hre
    have hln : (escL 0 p.rest.data.toList).length ≤ 9223372036854775807 := by
      have := escL_size 0 p.rest
      omega
    have hbb : bq = false ∧ bf = false := by cases bq <;> cases bf <;> simp_all
    obtain ⟨rfl, rfl⟩ := hbb
    clear hre hsx hm h hsz
    go_enter Tryz.func114, Tryz.ntmps114
    go_wp2
    go_quiet (fail)
    go_wp2_with fail
    refine (esc_at 0 p.rest _ w.heap.size _ (by rfl) rfl (by decide) (by decide) hr).mono ?_
    rintro e w2 ⟨rfl, hb2⟩
    have hB := (below_drewN w _).trans hb2
    obtain ⟨hk2, hz2⟩ := below_cells hB
    go_wp2
    go_end0
    exact ⟨rfl, HE.out _ _ hB HR.out.symm⟩
end Go.Proofs.YtibgiohijknmbaaGreatDoor

/-
  parser.schemed where the path is opaque; parser.plain without a base.
-/
namespace Go.Proofs.YtibgiohijknmbaaGreatDoor
open Go.RowKit
set_option linter.unusedVariables false
set_option linter.unusedSimpArgs false

theorem str_ne {s : ByteArray} {l : List UInt8} (h : s.data.toList ≠ l) : ¬ s = ⟨l.toArray⟩ ∧ ¬ s.toList = l ∧ (s.toList == l) = false := by
  have h1 : ¬ s = ⟨l.toArray⟩ := by intro e; rw [e] at h; exact h rfl
  have h2 : ¬ s.toList = l := by rw [ByteArray.toList_eq]; exact h
  exact ⟨h1, h2, by simpa using h2⟩

theorem prefix2 {s : List UInt8} (h : Lib.hasPrefix s [47] = false) : Lib.hasPrefix s [47, 47] = false := by
  unfold Lib.hasPrefix at *
  cases s with
  | nil => rfl
  | cons a t => simp [List.isPrefixOf] at h ⊢; intro h'; exact absurd h' h

set_option maxRecDepth 100000 in
set_option maxHeartbeats 1000000 in
theorem schemed_opq (p : PSt) (b : Nat) (w : World) (h : ParserAt w b p) (hs : p.sch.size ≤ maxLen) (hr : p.rest.size ≤ 1073741824) (hsp : specialB p.sch.data.toList = false) (hpre : Lib.hasPrefix p.rest.data.toList [47] = false) :
    Calls Tryz.prog 57 #[.pointer (some ⟨b, 0, none⟩)] w fun e w' => e = .returned (.tuple #[]) ∧ ParserAt w' b p.opqd ∧ w.grownBy w' (some b) := by
  have hbw := h.lt
  have c0 : w.cell? ⟨b, 0, none⟩ = some (.string p.sch) := h.cell 0
  have c14 : w.cell? ⟨b, 14, none⟩ = some (.string p.rest) := h.cell 14
  have hnf : p.sch.data.toList ≠ [102, 105, 108, 101] := fun e => by rw [e] at hsp; revert hsp; decide
  obtain ⟨hn1, hn2, hn3⟩ := str_ne hnf
  have hp1 := fun W => Tryz.strings_HasPrefix p.rest ⟨#[47]⟩ W
  have hp2 := fun W => Tryz.strings_HasPrefix p.rest ⟨#[47, 47]⟩ W
  have e1 : (⟨#[47]⟩ : ByteArray).data.toList = [47] := rfl
  have e2 : (⟨#[47, 47]⟩ : ByteArray).data.toList = [47, 47] := rfl
  rw [e1, hpre] at hp1
  rw [e2, prefix2 hpre] at hp2
  have HSP := Lib.hid hsp
  clear e1 e2 hpre hsp hnf
  go_enter Tryz.func57, Tryz.ntmps57
  go_wp2_with fail
  refine (special_c _ _ hs).mono ?_
  rintro e w1 ⟨rfl, hb⟩
  rw [HSP.out]
  obtain ⟨hk1, hz1⟩ := below_cells hb
  go_wp2_with fail
  refine (special_c _ _ hs).mono ?_
  rintro e w2 ⟨rfl, hb2⟩
  rw [HSP.out]
  have hB := hb.trans (hb2.mono hb.size)
  obtain ⟨hk2, hz2⟩ := below_cells hB
  clear hk1 hz1 hb hb2
  go_wp2_with fail
  refine (hp2 _).mono ?_
  rintro e w' ⟨rfl, rfl⟩
  go_wp2_with fail
  refine (hp1 _).mono ?_
  rintro e w' ⟨rfl, rfl⟩
  go_wp2_with fail
  refine (opaque_c p b _ (h.below hB) hr).mono ?_
  rintro e w3 ⟨rfl, hP, hG⟩
  go_wp2
  go_end0
  exact ⟨rfl, hP, (grown_below hB _).trans hG⟩

theorem plain_c (p : PSt) (b : Nat) (w : World) (h : ParserAt w b p) :
    Calls Tryz.prog 58 #[.pointer (some ⟨b, 0, none⟩)] w fun e w' => e = .returned (.tuple #[]) ∧ ParserAt w' b { p with bad := true } ∧ w.grownBy w' (some b) := by
  have hbw := h.lt
  have c13 : w.cell? ⟨b, 13, none⟩ = some (.pointer none) := h.cell 13
  have c17 : w.cell? ⟨b, 17, none⟩ = some (.bool p.bad) := h.cell 17
  have fz := fun j => h.free j
  go_enter Tryz.func58, Tryz.ntmps58
  go_wp2
  go_end0
  exact ⟨rfl, h.set (by simp [PSt.cells]), grown_set (grown_below (Below.refl _ _) _) _ _⟩
end Go.Proofs.YtibgiohijknmbaaGreatDoor

/-
  utf.Letter, Digit, Hex, Lower: what each call answers.
-/
namespace Go.Proofs.YtibgiohijknmbaaGreatDoor
open Go.RowKit
set_option linter.unusedVariables false
set_option linter.unusedSimpArgs false

def letterB (c : Int) : Bool := decide ((65 ≤ c ∧ c ≤ 90) ∨ (97 ≤ c ∧ c ≤ 122))
def digitB (c : Int) : Bool := decide (48 ≤ c ∧ c ≤ 57)
def hexI (c : Int) : Int := if 48 ≤ c ∧ c ≤ 57 then c - 48 else if 97 ≤ c ∧ c ≤ 102 then c - 87 else if 65 ≤ c ∧ c ≤ 70 then c - 55 else -1

theorem digitB_true {c : Int} : digitB c = true ↔ 48 ≤ c ∧ c ≤ 57 := by simp [digitB]
theorem digitB_false {c : Int} : digitB c = false ↔ ¬ (48 ≤ c ∧ c ≤ 57) := by unfold digitB; exact decide_eq_false_iff_not

set_option maxHeartbeats 400000 in
theorem digit_c (c : Int) (w : World) :
    Calls Tryz.prog 102 #[.int .u8 c] w fun e w' => e = .returned (.bool (digitB c)) ∧ w = w' := by
  go_enter Tryz.func102, Tryz.ntmps102
  go_wp2
  all_goals (go_ret; refine ⟨ret_b ?_, rfl⟩; unfold digitB)
  all_goals (rw [Bool.eq_iff_iff]; simp; omega)

set_option maxHeartbeats 400000 in
theorem letter_c (c : Int) (w : World) :
    Calls Tryz.prog 101 #[.int .u8 c] w fun e w' => e = .returned (.bool (letterB c)) ∧ w = w' := by
  go_enter Tryz.func101, Tryz.ntmps101
  go_wp2
  all_goals (go_ret; refine ⟨ret_b ?_, rfl⟩; unfold letterB)
  all_goals (rw [Bool.eq_iff_iff]; simp; omega)

set_option maxHeartbeats 400000 in
theorem hex_c (c : Int) (w : World) (h0 : 0 ≤ c) (h1 : c ≤ 255) :
    Calls Tryz.prog 134 #[.int .u8 c] w fun e w' => e = .returned (.int .i64 (hexI c)) ∧ w = w' := by
  go_enter Tryz.func134, Tryz.ntmps134
  go_wp2_with (go_at_call 102; refine (digit_c _ _).mono ?_; rintro e w' ⟨rfl, rfl⟩)
  all_goals (go_ret; refine ⟨ret_i ?_, rfl⟩; simp only [digitB_true, digitB_false] at *; unfold hexI; repeat (first | rw [if_pos (by omega)] | rw [if_neg (by omega)]))
  all_goals omega

/-! Lower -/
def lowerZ (c : Int) : Int := if 65 ≤ c ∧ c ≤ 90 then c + 32 else c
def lowerU (c : UInt8) : UInt8 := if 65 ≤ c ∧ c ≤ 90 then c + 32 else c
def lowerL (s : List UInt8) : List UInt8 := s.map lowerU

def lowVal (s : ByteArray) (k j : Nat) : Int := if j < k then lowerZ (sAt s j) else sAt s j
theorem lowVal_step (s : ByteArray) (k j : Nat) (h : j ≠ k) : lowVal s (k + 1) j = lowVal s k j := by
  unfold lowVal
  by_cases h1 : j < k
  · rw [if_pos h1, if_pos (by omega)]
  · rw [if_neg h1, if_neg (by omega)]

theorem lowerU_toNat (c : UInt8) : ((lowerU c).toNat : Int) = lowerZ (c.toNat : Int) := by
  unfold lowerU lowerZ
  by_cases h : 65 ≤ c ∧ c ≤ 90
  · have h1 := UInt8.le_iff_toNat_le.1 h.1
    have h2 := UInt8.le_iff_toNat_le.1 h.2
    rw [if_pos h, if_pos (by simp at h1 h2; omega), UInt8.toNat_add]
    simp at h1 h2 ⊢
    omega
  · rw [if_neg h, if_neg]
    intro h'
    exact h ⟨UInt8.le_iff_toNat_le.2 (by simp; omega), UInt8.le_iff_toNat_le.2 (by simp; omega)⟩
theorem low_done (s : ByteArray) : strOfNums ((List.range s.size).map (lowVal s s.size)) = ⟨(lowerL s.data.toList).toArray⟩ :=
  strOfNums_map s _ lowerU fun j hj => by
    rw [lowerU_toNat]
    unfold lowVal
    rw [if_pos hj]
    rfl

set_option maxRecDepth 100000 in
set_option maxHeartbeats 400000 in
theorem lower_c (s : ByteArray) (w : World) (hs : s.size ≤ 140737488351232) :
    Calls Tryz.prog 104 #[.string s] w fun e w' => e = .returned (.string ⟨(lowerL s.data.toList).toArray⟩) ∧ Below w.heap.size w w' := by
  have hcv := Lib.run_convert_string_bytes (P := Tryz.prog) w 9 29 5 s Tryz.underlying9 Tryz.underlying29 Tryz.underlying5
  have hcell0 : ∀ j, j < s.size → (Lib.bytesWorld w 5 s).cell? ⟨w.heap.size, j, none⟩ = some (.int .u8 (lowVal s 0 j)) := fun j hj => by
    rw [Lib.bytesWorld_cell w _ s j hj]
    rfl
  have hfz0 := frozen_bytesWorld w 5 s
  have hb0 := below_bytesWorld w 5 s
  generalize Lib.bytesWorld w 5 s = W1 at *
  have HC : Hid (∀ j, j < s.size → W1.cell? ⟨w.heap.size, j, none⟩ = some (.int .u8 (lowVal s 0 j))) := hcell0
  have HF : Hid (∀ j, j < s.size → W1.frozen? ⟨w.heap.size, j, none⟩ = false) := hfz0
  clear hcell0 hfz0
  go_enter Tryz.func104, Tryz.ntmps104
  go_wp2
  clear hcv
  go_loopw [10] (fun i wr => ∃ k : Nat, k ≤ s.size ∧ i = .int .i64 k ∧ Hid (∀ j, j < s.size → wr.cell? ⟨w.heap.size, j, none⟩ = some (.int .u8 (lowVal s k j))) ∧ Hid (∀ j, j < s.size → wr.frozen? ⟨w.heap.size, j, none⟩ = false) ∧ Below w.heap.size w wr) (fun i _ => s.size - (intOf i).toNat)
  case atStart => exact ⟨0, Nat.zero_le _, rfl, HC, HF, hb0⟩
  case round =>
    obtain ⟨k, hk, rfl, hc, hf, hb⟩ := hrel
    clear HC HF hb0
    by_cases hlt : k < s.size
    · have hck := hc.out k hlt
      have hfk := hf.out k hlt
      have hr := sAt_range s k
      have e0 : lowVal s k k = sAt s k := by unfold lowVal; rw [if_neg (by omega)]
      rw [e0] at hck
      clear e0
      go_wp2
      · refine ⟨⟨k + 1, by omega, by go_num, ?_, ?_, hb.setCell (Nat.le_refl _) _⟩, by simp [intOf]; omega⟩
        · intro j hj
          by_cases e : j = k
          · subst e
            rw [World.cell?_setCell_same _ _ _ hck]
            have : lowVal s (j + 1) j = sAt s j + 97 - 65 := by
              unfold lowVal lowerZ
              rw [if_pos (by omega), if_pos (by omega)]
              omega
            rw [this]
          · rw [World.cell?_setCell_other _ _ _ _ (by simp; try omega), lowVal_step s k j e]
            exact hc.out j hj
        · intro j hj
          rw [World.frozen?_setCell]
          exact hf.out j hj
      all_goals
        refine ⟨⟨k + 1, by omega, by go_num, ?_, hf, hb⟩, by simp [intOf]; omega⟩
        intro j hj
        by_cases e : j = k
        · subst e
          have : lowVal s (j + 1) j = sAt s j := by
            unfold lowVal lowerZ
            rw [if_pos (by omega), if_neg (by omega)]
          rw [this]
          exact hck
        · rw [lowVal_step s k j e]
          exact hc.out j hj
    · obtain rfl : k = s.size := by omega
      have hcv2 := fun cap => run_convert_bytes_arg (P := Tryz.prog) wr 29 5 Tryz.underlying29 Tryz.underlying5 w.heap.size 0 s.size cap ((List.range s.size).map (lowVal s s.size)) (by simp) (fun i hi => by
        rw [Nat.zero_add, hc.out i hi]
        simp [hi]) 9 Tryz.underlying9
      go_wp2
      go_ret
      exact ⟨ret_s (low_done s), hb⟩
end Go.Proofs.YtibgiohijknmbaaGreatDoor

/-
  utf.span, utf.first: the first character of bytes, and how many bytes are read for it.
-/
namespace Go.Proofs.YtibgiohijknmbaaGreatDoor
open Go.RowKit
set_option linter.unusedVariables false
set_option linter.unusedSimpArgs false

def spanF (b : Int) : Int × Int × Int :=
  if 194 ≤ b ∧ b ≤ 223 then (128, 191, 2) else if b = 224 then (160, 191, 3) else if b = 237 then (128, 159, 3) else if 225 ≤ b ∧ b ≤ 239 then (128, 191, 3)
  else if b = 240 then (144, 191, 4) else if 241 ≤ b ∧ b ≤ 243 then (128, 191, 4) else if b = 244 then (128, 143, 4) else (0, 0, 0)

set_option maxHeartbeats 1000000 in
theorem span_c (c : Int) (w : World) :
    Calls Tryz.prog 213 #[.int .u8 c] w fun e w' => e = .returned (.tuple #[.int .u8 (spanF c).1, .int .u8 (spanF c).2.1, .int .i64 (spanF c).2.2]) ∧ w = w' := by
  by_cases h1 : 194 ≤ c ∧ c ≤ 223
  · have e : spanF c = (128, 191, 2) := by simp [spanF, h1]
    rw [e]; clear e
    obtain ⟨h1, h2⟩ := h1
    go_enter Tryz.func213, Tryz.ntmps213
    go_wp2
    go_ret3
    exact ⟨rfl, rfl⟩
  by_cases h2 : c = 224
  · subst h2
    go_enter Tryz.func213, Tryz.ntmps213
    go_wp2
    go_ret3
    exact ⟨rfl, rfl⟩
  by_cases h3 : c = 237
  · subst h3
    go_enter Tryz.func213, Tryz.ntmps213
    go_wp2
    go_ret3
    exact ⟨rfl, rfl⟩
  have b2 : (c == 224) = false := by simpa using h2
  have b3 : (c == 237) = false := by simpa using h3
  by_cases h4 : 225 ≤ c ∧ c ≤ 239
  · have e : spanF c = (128, 191, 3) := by simp [spanF, h1, h2, h3, h4]
    rw [e]; clear e
    have h5 : 194 ≤ c := by omega
    have h6 : 223 < c := by omega
    obtain ⟨h7, h8⟩ := h4
    clear h1
    go_enter Tryz.func213, Tryz.ntmps213
    go_wp2
    go_ret3
    exact ⟨rfl, rfl⟩
  by_cases h5 : c = 240
  · subst h5
    go_enter Tryz.func213, Tryz.ntmps213
    go_wp2
    go_ret3
    exact ⟨rfl, rfl⟩
  have b5 : (c == 240) = false := by simpa using h5
  by_cases h6 : 241 ≤ c ∧ c ≤ 243
  · have e : spanF c = (128, 191, 4) := by simp [spanF, h1, h2, h3, h4, h5, h6]
    rw [e]; clear e
    have h7 : 194 ≤ c := by omega
    have h8 : 223 < c := by omega
    have h9 : 239 < c := by omega
    obtain ⟨h10, h11⟩ := h6
    clear h1 h4
    go_enter Tryz.func213, Tryz.ntmps213
    go_wp2
    go_ret3
    exact ⟨rfl, rfl⟩
  by_cases h7 : c = 244
  · subst h7
    go_enter Tryz.func213, Tryz.ntmps213
    go_wp2
    go_ret3
    exact ⟨rfl, rfl⟩
  have b7 : (c == 244) = false := by simpa using h7
  have e : spanF c = (0, 0, 0) := by simp [spanF, h1, h2, h3, h4, h5, h6, h7]
  rw [e]; clear e
  by_cases hlo : c < 194
  · clear h1 h4 h6
    have h8 : c < 225 := by omega
    have h9 : c < 241 := by omega
    go_enter Tryz.func213, Tryz.ntmps213
    go_wp2
    go_ret3
    exact ⟨rfl, rfl⟩
  · have h8 : 243 < c := by omega
    clear h1 h4 h6
    go_enter Tryz.func213, Tryz.ntmps213
    go_wp2
    go_ret3
    exact ⟨rfl, rfl⟩

/-- How many bytes are read: the loop of utf.first, from n bytes on. -/
def scanF (lo hi : Int) (many : Int) (n : Nat) : List UInt8 → Nat
  | [] => n
  | c :: t => if (n : Int) < many ∧ lo ≤ (c.toNat : Int) ∧ (c.toNat : Int) ≤ hi then scanF 128 191 many (n + 1) t else n
def firstN (l : List UInt8) : Nat := scanF (spanF ((l.getD 0 0).toNat : Int)).1 (spanF ((l.getD 0 0).toNat : Int)).2.1 (spanF ((l.getD 0 0).toNat : Int)).2.2 1 (l.drop 1)
def firstF (l : List UInt8) : Int × Nat :=
  if (l.getD 0 0).toNat < 128 then (((l.getD 0 0).toNat : Int), 1)
  else if (spanF ((l.getD 0 0).toNat : Int)).2.2 = 0 ∨ (firstN l : Int) < (spanF ((l.getD 0 0).toNat : Int)).2.2 then (65533, firstN l)
  else (((Lib.decodeGo ⟨(l.take (firstN l)).toArray⟩).1 : Int), firstN l)

theorem spanF_many (c : Int) : 0 ≤ (spanF c).2.2 ∧ (spanF c).2.2 ≤ 4 := by unfold spanF; (repeat' split) <;> simp
theorem spanF_lo (c : Int) : 0 ≤ (spanF c).1 ∧ (spanF c).1 ≤ 255 := by unfold spanF; (repeat' split) <;> simp
theorem spanF_hi (c : Int) : 0 ≤ (spanF c).2.1 ∧ (spanF c).2.1 ≤ 255 := by unfold spanF; (repeat' split) <;> simp
theorem scanF_le (lo hi many : Int) (l : List UInt8) : ∀ n, n ≤ scanF lo hi many n l ∧ scanF lo hi many n l ≤ n + l.length := by
  induction l generalizing lo hi with
  | nil => intro n; simp [scanF]
  | cons c t ih =>
    intro n
    unfold scanF
    split
    · have := ih 128 191 (n + 1)
      simp only [List.length_cons]
      omega
    · simp only [List.length_cons]; omega
theorem scanF_many (lo hi many : Int) (l : List UInt8) : ∀ n : Nat, ((scanF lo hi many n l : Nat) : Int) ≤ max (n : Int) many := by
  induction l generalizing lo hi with
  | nil => intro n; simp only [scanF]; omega
  | cons c t ih =>
    intro n
    unfold scanF
    split
    · rename_i h
      have := ih 128 191 (n + 1)
      omega
    · omega
theorem firstN_range (l : List UInt8) (h : l ≠ []) : 1 ≤ firstN l ∧ firstN l ≤ l.length ∧ firstN l ≤ 4 := by
  have h1 := scanF_le (spanF ((l.getD 0 0).toNat : Int)).1 (spanF ((l.getD 0 0).toNat : Int)).2.1 (spanF ((l.getD 0 0).toNat : Int)).2.2 (l.drop 1) 1
  have h2 := scanF_many (spanF ((l.getD 0 0).toNat : Int)).1 (spanF ((l.getD 0 0).toNat : Int)).2.1 (spanF ((l.getD 0 0).toNat : Int)).2.2 (l.drop 1) 1
  have h3 := (spanF_many ((l.getD 0 0).toNat : Int)).2
  have h4 : 0 < l.length := by cases l with | nil => exact absurd rfl h | cons _ _ => simp
  simp only [List.length_drop] at h1
  unfold firstN
  omega
theorem take_get (l : List UInt8) (k j : Nat) (hj : j < k) (hk : k ≤ l.length) : ((⟨(l.take k).toArray⟩ : ByteArray).get! j).toNat = (l.getD j 0).toNat := by
  show ((l.take k).toArray[j]!).toNat = _
  rw [List.getElem!_toArray, getElem!_pos _ j (by rw [List.length_take]; omega), List.getElem_take, List.getD_eq_getElem?_getD, List.getElem?_eq_getElem (by omega)]
  rfl
theorem decode_take (l : List UInt8) (b off cap k : Nat) (w : World) (hT : Lib.Utf8Tabs 1 2 w) (hk : k ≤ l.length) (hb : BytesAt w b off l) :
    Calls Tryz.prog 214 #[.slice (some ⟨b, off, none⟩) k cap] w fun e w' => e = .returned (.tuple #[.int .i32 (Lib.decodeGo ⟨(l.take k).toArray⟩).1, .int .i64 (Lib.decodeGo ⟨(l.take k).toArray⟩).2]) ∧ Below w.heap.size w w' := by
  have hs : (⟨(l.take k).toArray⟩ : ByteArray).size = k := by
    show (l.take k).toArray.size = k
    rw [List.size_toArray, List.length_take]
    omega
  have h := Tryz.utf8_DecodeRune ⟨(l.take k).toArray⟩ b off cap w hT (fun j hj => by
    rw [hs] at hj
    rw [take_get l k j hj hk]
    exact hb j (by omega))
  rw [hs] at h
  exact h

set_option maxRecDepth 100000 in
set_option maxHeartbeats 1000000 in
theorem first_c (l : List UInt8) (b off cap : Nat) (w : World) (hT : Lib.Utf8Tabs 1 2 w) (h0 : l ≠ []) (hl : l.length ≤ cap) (hcap : cap ≤ 9223372036854775807) (hb : BytesAt w b off l) :
    Calls Tryz.prog 154 #[.slice (some ⟨b, off, none⟩) l.length cap] w fun e w' => e = .returned (.tuple #[.int .i32 (firstF l).1, .int .i64 (firstF l).2]) ∧ Below w.heap.size w w' := by
  have hlen : 0 < l.length := by cases l with | nil => exact absurd rfl h0 | cons _ _ => simp
  have hc0 : w.cell? ⟨b, off, none⟩ = some (.int .u8 ((l.getD 0 0).toNat : Int)) := hb 0 hlen
  have hx := (l.getD 0 0).toNat_lt
  obtain ⟨x, hxe⟩ : ∃ x : Nat, (l.getD 0 0).toNat = x := ⟨_, rfl⟩
  rw [hxe] at hc0 hx
  have hlp : (0 : Int) < (l.length : Int) := by omega
  by_cases ha : (x : Int) < 128
  · have e : firstF l = ((x : Int), 1) := by unfold firstF; rw [hxe, if_pos (by omega)]
    rw [e]
    clear e hxe hb hT
    go_enter Tryz.func154, Tryz.ntmps154
    go_wp2
    go_ret2
    exact ⟨rfl, Below.refl _ _⟩
  · have hr := firstN_range l h0
    have hs1 := spanF_many (x : Int)
    have hs2 := spanF_lo (x : Int)
    have hs3 := spanF_hi (x : Int)
    obtain ⟨R, hR⟩ : ∃ R, firstN l = R := ⟨_, rfl⟩
    have HR : Hid (scanF (spanF (x : Int)).1 (spanF (x : Int)).2.1 (spanF (x : Int)).2.2 1 (l.drop 1) = R) := by rw [← hR]; unfold firstN; rw [hxe]; rfl
    have HE : Hid (firstF l = if (spanF (x : Int)).2.2 = 0 ∨ (R : Int) < (spanF (x : Int)).2.2 then (65533, R) else (((Lib.decodeGo ⟨(l.take R).toArray⟩).1 : Int), R)) := by
      show _ = _
      unfold firstF
      rw [hxe, if_neg (by omega), hR]
    rw [hR] at hr
    have HX : Hid ((l.getD 0 0).toNat = x) := hxe
    have HB : Hid (BytesAt w b off l) := hb
    have HT : Hid (Lib.Utf8Tabs 1 2 w) := hT
    clear hxe hR hb hT
    go_enter Tryz.func154, Tryz.ntmps154
    go_wp2_with (go_at_call 213; refine (span_c _ _).mono ?_; rintro e w' ⟨rfl, rfl⟩)
    generalize (spanF (x : Int)).1 = lo0 at *
    generalize (spanF (x : Int)).2.1 = hi0 at *
    generalize (spanF (x : Int)).2.2 = mn at *
    go_loop [4, 5, 7] (fun lo hi n => ∃ (k : Nat) (a c : Int), 1 ≤ k ∧ k ≤ l.length ∧ (k : Int) ≤ 4 ∧ 0 ≤ a ∧ a ≤ 255 ∧ 0 ≤ c ∧ c ≤ 255 ∧ lo = .int .u8 a ∧ hi = .int .u8 c ∧ n = .int .i64 k ∧ Hid (scanF a c mn k (l.drop k) = R)) (fun _ _ n => l.length - (intOf n).toNat)
    case atStart => exact ⟨1, lo0, hi0, by omega, by omega, by omega, by omega, by omega, by omega, by omega, rfl, rfl, rfl, HR⟩
    case round =>
      obtain ⟨k, a, c, hk1, hk2, hk3, ha1, ha2, hc1, hc2, rfl, rfl, rfl, hsc⟩ := hrel
      have cD := fun hw => decode_take l b off cap k w HT.out hw HB.out
      by_cases hkl : k < l.length
      · have hck := HB.out k hkl
        have hdrop : l.drop k = l.getD k 0 :: l.drop (k + 1) := by
          rw [List.drop_eq_getElem_cons hkl, List.getD_eq_getElem?_getD, List.getElem?_eq_getElem hkl]
          rfl
        have hy := (l.getD k 0).toNat_lt
        have HS : Hid ((if (k : Int) < mn ∧ a ≤ ((l.getD k 0).toNat : Int) ∧ ((l.getD k 0).toNat : Int) ≤ c then scanF 128 191 mn (k + 1) (l.drop (k + 1)) else k) = R) := by
          have := hsc.out
          rw [hdrop] at this
          exact this
        clear hdrop hsc
        generalize (l.getD k 0).toNat = y at *
        have hkl' : (k : Int) < (l.length : Int) := by omega
        go_wp2_with (go_at_call 214; refine (cD (by omega)).mono ?_; rintro e w' ⟨rfl, hbw⟩)
        all_goals first
          | (refine ⟨⟨k + 1, 128, 191, by omega, by omega, by omega, by omega, by omega, by omega, by omega, rfl, rfl, by go_num, ?_⟩, by simp [intOf]; omega⟩
             have h := HS.out
             rw [if_pos ⟨by omega, by omega, by omega⟩] at h
             exact h)
          | (have h := HS.out
             rw [if_neg (by omega)] at h
             subst h
             go_ret2
             rw [HE.out]
             first
              | (rw [if_pos (by omega)]; exact ⟨rfl, Below.refl _ _⟩)
              | (rw [if_neg (by omega)]; exact ⟨rfl, by assumption⟩))
      · obtain rfl : k = l.length := by omega
        have h := hsc.out
        rw [List.drop_length] at h
        simp only [scanF] at h
        subst h
        have hkl' : ¬ ((l.length : Int) < (l.length : Int)) := by omega
        clear hsc
        go_wp2_with (go_at_call 214; refine (cD (by omega)).mono ?_; rintro e w' ⟨rfl, hbw⟩)
        all_goals
          go_ret2
          rw [HE.out]
          first
            | (rw [if_pos (by omega)]; exact ⟨rfl, Below.refl _ _⟩)
            | (rw [if_neg (by omega), List.take_length]; exact ⟨rfl, by assumption⟩)
end Go.Proofs.YtibgiohijknmbaaGreatDoor

/-
  utf.Decode: bytes' characters.
-/
namespace Go.Proofs.YtibgiohijknmbaaGreatDoor
open Go.RowKit
set_option linter.unusedVariables false
set_option linter.unusedSimpArgs false

def decG : Nat → List UInt8 → List Int
  | 0, _ => []
  | f + 1, l => if l = [] then [] else (firstF l).1 :: decG f (l.drop (firstF l).2)
def decF (l : List UInt8) : List Int := decG l.length l
theorem firstF_range (l : List UInt8) (h : l ≠ []) : 1 ≤ (firstF l).2 ∧ (firstF l).2 ≤ l.length := by
  have h1 := firstN_range l h
  have h4 : 0 < l.length := by cases l with | nil => exact absurd rfl h | cons _ _ => simp
  unfold firstF
  (repeat' split) <;> simp <;> omega
theorem decG_fuel (f g : Nat) (l : List UInt8) (hf : l.length ≤ f) (hg : l.length ≤ g) : decG f l = decG g l := by
  induction f generalizing g l with
  | zero =>
    have : l = [] := by cases l with | nil => rfl | cons _ _ => simp at hf
    subst this
    cases g <;> simp [decG]
  | succ f ih =>
    by_cases h : l = []
    · subst h
      cases g <;> simp [decG]
    · have h1 := firstF_range l h
      cases g with
      | zero => exact absurd (List.length_eq_zero_iff.1 (by omega)) h
      | succ g =>
        simp only [decG, if_neg h]
        rw [ih g _ (by rw [List.length_drop]; omega) (by rw [List.length_drop]; omega)]
theorem decF_nil : decF [] = [] := rfl
theorem decF_cons (l : List UInt8) (h : l ≠ []) : decF l = (firstF l).1 :: decF (l.drop (firstF l).2) := by
  have h4 : 0 < l.length := by cases l with | nil => exact absurd rfl h | cons _ _ => simp
  have h1 := firstF_range l h
  unfold decF
  obtain ⟨n, hn⟩ : ∃ n, l.length = n + 1 := ⟨l.length - 1, by omega⟩
  rw [hn]
  simp only [decG, if_neg h]
  rw [decG_fuel n _ _ (by rw [List.length_drop]; omega) (Nat.le_refl _)]
theorem decF_length (l : List UInt8) : (decF l).length ≤ l.length := by
  obtain ⟨n, hn⟩ : ∃ n, l.length = n := ⟨_, rfl⟩
  induction n using Nat.strongRecOn generalizing l with
  | ind n ih =>
    by_cases h : l = []
    · subst h; simp [decF_nil]
    · have h1 := firstF_range l h
      rw [decF_cons l h, List.length_cons]
      have := ih (l.drop (firstF l).2).length (by rw [List.length_drop]; omega) _ rfl
      rw [List.length_drop] at this
      omega
theorem rinfo : (Tryz.prog.info? 21).map (fun i => (i.zero, i.size, i.bytes)) = some (some (.int .i32 0), 1, 4) := by kernel_rfl
def runes (ds : List Int) : List Value := ds.map (Value.int .i32)

set_option maxRecDepth 100000 in
set_option maxHeartbeats 1000000 in
theorem decode_c (l : List UInt8) (b off cap : Nat) (w : World) (hT : Lib.Utf8Tabs 1 2 w) (hl : l.length ≤ cap) (hlen : l.length ≤ 4294967296) (hcap : cap ≤ 9223372036854775807) (hb : BytesAt w b off l) (hbw : b < w.heap.size) :
    Calls Tryz.prog 95 #[.slice (some ⟨b, off, none⟩) l.length cap] w fun e w' => ∃ v, e = .returned v ∧ w'.ownsRow w.heap.size 21 1 v (decF l).length (runes (decF l)) ∧ Below w.heap.size w w' := by
  obtain ⟨i0, hi, hz0, hz1, hz2⟩ := info_parts rinfo
  go_enter Tryz.func95, Tryz.ntmps95
  go_wp2
  go_loopw [0, 3] (fun s out wr => ∃ (m : List UInt8) (o c : Nat) (ds : List Int), s = .slice (some ⟨b, o, none⟩) m.length c ∧ m.length ≤ c ∧ c ≤ cap ∧ BytesAt w b o m ∧ m.length + ds.length ≤ l.length ∧ Hid (ds ++ decF m = decF l) ∧ wr.ownsRow w.heap.size 21 1 out ds.length (runes ds) ∧ Below w.heap.size w wr) (fun s _ _ => lenOf s)
  case atStart => exact ⟨l, off, cap, [], rfl, hl, Nat.le_refl _, hb, by simp, rfl, ⟨by simp [runes], .inl ⟨rfl, rfl⟩⟩, Below.refl _ _⟩
  case round =>
    obtain ⟨m, o, c, ds, rfl, hmc, hcc, hbm, hml, hds, hown, hbl⟩ := hrel
    by_cases hm : m = []
    · subst hm
      have h := hds.out
      rw [decF_nil, List.append_nil] at h
      subst h
      go_wp2
      go_ret
      exact ⟨_, rfl, hown, hbl⟩
    · have hpos : 0 < m.length := by cases m with | nil => exact absurd rfl hm | cons _ _ => simp
      have hfr := firstF_range m hm
      have hdl := decF_length m
      have HD : Hid (decF m = (firstF m).1 :: decF (m.drop (firstF m).2)) := decF_cons m hm
      have hdrop : (m.drop (firstF m).2).length = m.length - (firstF m).2 := List.length_drop
      go_wp2_with (go_at_call 154; refine (first_c m b o c wr (Utf8Tabs_below hT hbl) hm hmc (by omega) (hbm.below hbl hbw)).mono ?_)
      rintro e w1 ⟨rfl, hb1⟩
      have hown1 := own_later hown hb1
      have hbl1 := below_from hbl hbl.size hb1
      have hbm1 := hbm.drop (firstF m).2
      obtain ⟨q, hq⟩ : ∃ q, (firstF m).2 = q := ⟨_, rfl⟩
      obtain ⟨r, hr⟩ : ∃ r, (firstF m).1 = r := ⟨_, rfl⟩
      rw [hq] at hfr hbm1 hdrop HD ⊢
      rw [hr] at HD ⊢
      clear hq hr hown hbl hbm hb1
      have hz := hbl1.size
      go_wp2_with (at_builtin; refine wpList_append_own _ rfl _ _ 168 rfl w.heap.size 21 i0 (.int .i32 0) 1 4 Tryz.underlying168 hi hz0 hz1 hz2 rfl (by decide) _ _ _ rfl (hown1.alloc _) ⟨w1.heap.size, 0, none⟩ 1 1 [.int .i32 r] rfl rfl ?c1 ?c2 ?c3 ?c4 ?c5 ?_)
      case c1 =>
        intro j u hj
        match j, hj with
        | 0, hj => simp at hj; subst hj; simp [Addr.add]
      case c2 => intro u hu; simp at hu; subst hu; rfl
      case c3 => unfold maxLen; omega
      case c4 => omega
      case c5 => simp; omega
      intro v' w2 hown2 hgrow _
      have hbl2 : Below w.heap.size w w2 := (hbl1.alloc (by omega) _).grown hgrow (by simp; omega) (fun k hk => (hown1.lt k hk).1)
      have hv : ∃ g k, v' = .slice (some ⟨g, 0, none⟩) (ds.length + 1) k := by
        rcases hown2.2 with ⟨_, h0⟩ | ⟨g, k, cur, hv, _⟩
        · omega
        · exact ⟨g, k, hv⟩
      obtain ⟨g, kk, rfl⟩ := hv
      have hds2 : Hid ((ds ++ [r]) ++ decF (m.drop q) = decF l) := by
        show _ = _
        rw [← hds.out, HD.out, List.append_assoc]
        rfl
      have hown3 : w2.ownsRow w.heap.size 21 1 (.slice (some ⟨g, 0, none⟩) (ds.length + 1) kk) (ds ++ [r]).length (runes (ds ++ [r])) := by
        have e1 : (ds ++ [r]).length = ds.length + 1 := by simp
        have e2 : runes (ds ++ [r]) = runes ds ++ [.int .i32 r] := by simp [runes]
        rw [e1, e2]
        exact hown2
      clear hown2 hds HD hown1 hgrow
      by_cases hcq : c = q
      · subst hcq
        go_wp2
        refine ⟨⟨m.drop c, o, 0, ds ++ [r], ?_, by omega, by omega, ?_, by simp only [List.length_append, List.length_singleton]; omega, hds2, hown3, hbl2⟩, ?_⟩
        · rw [hdrop, show m.length - c = 0 by omega]
        · intro j hj
          omega
        · simp only [lenOf]; omega
      · go_wp2
        refine ⟨⟨m.drop q, o + q, c - q, ds ++ [r], ?_, by omega, by omega, hbm1, by simp only [List.length_append, List.length_singleton]; omega, hds2, hown3, hbl2⟩, ?_⟩
        · rw [hdrop]
        · simp only [lenOf]; omega
end Go.Proofs.YtibgiohijknmbaaGreatDoor

/-
  utf.Encode: characters' bytes.
-/
namespace Go.Proofs.YtibgiohijknmbaaGreatDoor
open Go.RowKit
set_option linter.unusedVariables false
set_option linter.unusedSimpArgs false

/-- A value that is a slice of runes. -/
def RunesAt (w : World) (v : Value) (ds : List Int) : Prop :=
  ∃ a c, v = .slice a ds.length c ∧ ds.length ≤ c ∧ (0 < ds.length → ∃ g, a = some ⟨g, 0, none⟩ ∧ g < w.heap.size ∧ ∀ j, j < ds.length → w.cell? ⟨g, j, none⟩ = some (.int .i32 (ds.getD j 0)))
theorem runes_of_own {w : World} {base : Nat} {e : TypeId} {v : Value} {ds : List Int} (h : w.ownsRow base e 1 v ds.length (runes ds)) : RunesAt w v ds := by
  rcases h.2 with ⟨rfl, h0⟩ | ⟨g, cap, cur, rfl, hb, hh, hn, hm, hs, ht⟩
  · exact ⟨none, 0, by rw [h0], by omega, fun hp => absurd hp (by omega)⟩
  · refine ⟨_, cap, rfl, hn, fun hp => ⟨g, rfl, (h.lt g rfl).2, fun j hj => ?_⟩⟩
    have := h.cells (g := g) rfl j (.int .i32 (ds.getD j 0)) (by simp [runes, List.getD_eq_getElem?_getD, List.getElem?_eq_getElem hj])
    rwa [addr_add0] at this
def runeB (r : Int) : List UInt8 := Lib.encodeRune r
def encF (ds : List Int) : List UInt8 := ds.flatMap runeB
theorem encF_snoc (ds : List Int) (r : Int) : encF (ds ++ [r]) = encF ds ++ runeB r := by simp [encF]
def byteV (l : List UInt8) : List Value := l.map fun b => .int .u8 (b.toNat : Int)
theorem encodeRuneZ_range (r : Int) : ∀ x ∈ Lib.encodeRuneZ r, 0 ≤ x ∧ x ≤ 255 := by
  unfold Lib.encodeRuneZ
  (repeat' split) <;> simp <;> omega
theorem encodeRuneZ_length (r : Int) : 1 ≤ (Lib.encodeRuneZ r).length ∧ (Lib.encodeRuneZ r).length ≤ 4 := by
  unfold Lib.encodeRuneZ
  (repeat' split) <;> simp
theorem runeCells_eq (r : Int) : Lib.runeCells r = byteV (runeB r) := by
  unfold Lib.runeCells byteV runeB Lib.encodeRune
  rw [List.map_map]
  refine List.map_congr_left fun x hx => ?_
  have := encodeRuneZ_range r x hx
  simp only [Function.comp]
  congr 1
  simp
  omega
theorem runeB_length (r : Int) : 1 ≤ (runeB r).length ∧ (runeB r).length ≤ 4 := by
  have := encodeRuneZ_length r
  unfold runeB Lib.encodeRune
  rw [List.length_map]
  exact this
theorem encF_length (ds : List Int) : (encF ds).length ≤ 4 * ds.length := by
  induction ds with
  | nil => simp [encF]
  | cons r t ih =>
    have := (runeB_length r).2
    have e : encF (r :: t) = runeB r ++ encF t := by simp [encF]
    rw [e, List.length_append, List.length_cons]
    omega
theorem byteV_append (a b : List UInt8) : byteV (a ++ b) = byteV a ++ byteV b := by simp [byteV]
theorem byteV_length (a : List UInt8) : (byteV a).length = a.length := by simp [byteV]

set_option maxRecDepth 100000 in
set_option maxHeartbeats 1000000 in
theorem encode_c (ds : List Int) (v : Value) (w : World) (hr : ∀ r ∈ ds, -2147483648 ≤ r ∧ r ≤ 2147483647) (hlen : ds.length ≤ 4294967296) (hv : RunesAt w v ds) :
    Calls Tryz.prog 94 #[v] w fun e w' => ∃ u, e = .returned u ∧ w'.ownsRow w.heap.size 5 1 u (encF ds).length (byteV (encF ds)) ∧ Below w.heap.size w w' := by
  obtain ⟨a, c, rfl, hc, hcell⟩ := hv
  have HR : Hid (∀ r ∈ ds, -2147483648 ≤ r ∧ r ≤ 2147483647) := hr
  have HC : Hid (0 < ds.length → ∃ g, a = some ⟨g, 0, none⟩ ∧ g < w.heap.size ∧ ∀ j, j < ds.length → w.cell? ⟨g, j, none⟩ = some (.int .i32 (ds.getD j 0))) := hcell
  clear hr hcell
  go_enter Tryz.func94, Tryz.ntmps94
  go_wp2
  go_loopw [3, 8] (fun out i wr => ∃ (k : Nat), i = .int .i64 k ∧ k ≤ ds.length ∧ wr.ownsRow w.heap.size 5 1 out (encF (ds.take k)).length (byteV (encF (ds.take k))) ∧ Below w.heap.size w wr) (fun _ i _ => ds.length - (intOf i).toNat)
  case atStart => exact ⟨0, rfl, Nat.zero_le _, ⟨by simp [encF, byteV], .inl ⟨rfl, by simp [encF]⟩⟩, Below.refl _ _⟩
  case round =>
    obtain ⟨k, rfl, hk, hown, hbl⟩ := hrel
    by_cases hlt : k < ds.length
    · obtain ⟨g, rfl, hg, hce⟩ := HC.out (by omega)
      have hck : wr.cell? ⟨g, k, none⟩ = some (.int .i32 (ds.getD k 0)) := (hbl.cell (p := ⟨g, k, none⟩) hg).trans (hce k hlt)
      have hmem : ds.getD k 0 ∈ ds := by
        rw [List.getD_eq_getElem?_getD, List.getElem?_eq_getElem hlt]
        exact List.getElem_mem hlt
      obtain ⟨hr0, hr1⟩ := HR.out _ hmem
      have hts : ds.take (k + 1) = ds.take k ++ [ds.getD k 0] := by
        rw [List.take_succ_eq_append_getElem hlt, List.getD_eq_getElem?_getD, List.getElem?_eq_getElem hlt]
        rfl
      have hle := encF_length (ds.take k)
      have hlt2 : (ds.take k).length ≤ ds.length := by rw [List.length_take]; omega
      have HT : Hid (encF (ds.take (k + 1)) = encF (ds.take k) ++ runeB (ds.getD k 0)) := by show _ = _; rw [hts, encF_snoc]
      clear hts hce hmem
      generalize encF (ds.take k) = done at *
      generalize ds.getD k 0 = r at *
      go_wp2_with (go_at_call 153; refine (Tryz.utf8_AppendRune_plain w.heap.size _ done.length (byteV done) r hr0 hr1 _ hown (by omega) hbl.size).mono ?_)
      rintro e w1 ⟨v1, rfl, hown1, o, hgr⟩
      have hbl1 : Below w.heap.size w w1 := (hbl.alloc hbl.size o).grown hgr (by have := hbl.size; simp; omega) (fun q hq => (hown.lt q hq).1)
      have hown2 : w1.ownsRow w.heap.size 5 1 v1 (encF (ds.take (k + 1))).length (byteV (encF (ds.take (k + 1)))) := by
        rw [HT.out, byteV_append, List.length_append]
        rw [runeCells_eq, byteV_length] at hown1
        exact hown1
      clear hown1 hgr hown HT hck
      obtain ⟨ao, n1, c1, rfl⟩ : ∃ ao n1 c1, v1 = .slice ao n1 c1 := by
        rcases hown2.2 with ⟨hv, _⟩ | ⟨g, cap, cur, hv, _⟩
        · exact ⟨_, _, _, hv⟩
        · exact ⟨_, _, _, hv⟩
      go_wp2
      refine ⟨⟨k + 1, by go_num, by omega, hown2, hbl1⟩, by simp [intOf]; omega⟩
    · obtain rfl : k = ds.length := by omega
      rw [List.take_length] at hown
      go_wp2
      go_ret
      exact ⟨_, rfl, hown, hbl⟩
end Go.Proofs.YtibgiohijknmbaaGreatDoor
