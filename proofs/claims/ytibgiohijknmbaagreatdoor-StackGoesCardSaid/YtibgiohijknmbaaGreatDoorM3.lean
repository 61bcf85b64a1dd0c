/-
  Joined texts: PState, RepL, POpq, PSch.
-/
import Derived.Test.YtibgiohijknmbaaGreatDoorM2
import Derived.Laws.Rows
import Derived.Lib.Builder
import Derived.Maps.AppendAt
import Derived.Deep.AppendLies
import Derived.OwnWalk
import Derived.Deep.QuietTactic
import Derived.BigQuiet
import Derived.Test.YtibgiohijknmbaaGreatDoorM1
import Derived.Lib.Strings
/-
  The parser's state in memory; slashes, based: what each call answers.
-/
namespace Go.Proofs.YtibgiohijknmbaaGreatDoor
open Go.RowKit
set_option linter.unusedVariables false
set_option linter.unusedSimpArgs false

/-- A parser: its URL's parts, and what is left to read. -/
structure PSt where
  sch : ByteArray
  user : ByteArray
  pass : ByteArray
  host : ByteArray
  hasHost : Bool
  port : Int
  opq : Bool
  text : ByteArray
  path : Value
  hasQ : Bool
  hasF : Bool
  query : ByteArray
  frag : ByteArray
  rest : ByteArray
  q : ByteArray
  f : ByteArray
  bad : Bool
def PSt.cells (p : PSt) : Array Value :=
  #[.string p.sch, .string p.user, .string p.pass, .string p.host, .bool p.hasHost, .int .i64 p.port, .bool p.opq, .string p.text, p.path, .bool p.hasQ, .bool p.hasF, .string p.query, .string p.frag,
    .pointer none, .string p.rest, .string p.q, .string p.f, .bool p.bad]
def ParserAt (w : World) (b : Nat) (p : PSt) : Prop := w.heap[b]? = some (.cells p.cells 115 (0, 0))
theorem ParserAt.lt {w : World} {b : Nat} {p : PSt} (h : ParserAt w b p) : b < w.heap.size := by
  rcases Nat.lt_or_ge b w.heap.size with h' | h'
  · exact h'
  · have h : w.heap[b]? = _ := h
    simp [Array.getElem?_eq_none h'] at h
theorem ParserAt.cell {w : World} {b : Nat} {p : PSt} (h : ParserAt w b p) (j : Nat) : w.cell? ⟨b, j, none⟩ = p.cells[j]? := Lib.cell_of_heap h j
theorem ParserAt.free {w : World} {b : Nat} {p : PSt} (h : ParserAt w b p) (j : Nat) : w.frozen? ⟨b, j, none⟩ = false := frozen_of_row w b j _ _ h
theorem ParserAt.below {w w' : World} {b : Nat} {p : PSt} (h : ParserAt w b p) (k : Below w.heap.size w w') : ParserAt w' b p := (k.block b h.lt).trans h
theorem ParserAt.set {w : World} {b j : Nat} {p p' : PSt} {v : Value} (h : ParserAt w b p) (e : p.cells.setIfInBounds j v = p'.cells) : ParserAt (w.setCell ⟨b, j, none⟩ v) b p' := by
  have := heap_setCell_same w b j _ _ v h
  rw [e] at this
  exact this
theorem grown_below {w w' : World} (h : Below w.heap.size w w') (row : Option Nat) : w.grownBy w' row := ⟨h.os, h.tape, h.output, h.size, fun i hi _ => h.block i hi⟩
theorem grown_set {w w' : World} {b : Nat} (h : w.grownBy w' (some b)) (j : Nat) (v : Value) : w.grownBy (w'.setCell ⟨b, j, none⟩ v) (some b) :=
  ⟨h.os, h.tape, h.output, by simpa [World.setCell] using h.size, fun i hi hne => by rw [heap_setCell_other _ _ _ _ (fun e => hne (by rw [e]))]; exact h.block i hi hne⟩
theorem grown_drewN {w w' : World} {row : Option Nat} (h : w.grownBy w' row) (n : Nat) : w.grownBy (w'.drewN n) row := ⟨h.os, h.tape, h.output, h.size, h.block⟩
theorem below_cells {W w1 : World} (hb : Below W.heap.size W w1) : (∀ b o, b < W.heap.size → w1.cell? ⟨b, o, none⟩ = W.cell? ⟨b, o, none⟩) ∧ (∀ b o, b < W.heap.size → w1.frozen? ⟨b, o, none⟩ = W.frozen? ⟨b, o, none⟩) :=
  ⟨fun b o h => hb.cell (p := ⟨b, o, none⟩) h, fun b o h => hb.frozen (p := ⟨b, o, none⟩) h⟩
theorem below_drewN (w : World) (n : Nat) : Below w.heap.size w (w.drewN n) := ⟨rfl, rfl, rfl, Nat.le_refl _, fun _ _ => rfl⟩

def slashesF (sch : List UInt8) : ByteArray := if specialB sch = true then ⟨#[47, 92]⟩ else ⟨#[47]⟩
set_option maxHeartbeats 400000 in
theorem slashes_c (p : PSt) (b : Nat) (w : World) (h : ParserAt w b p) (hs : p.sch.size ≤ maxLen) :
    Calls Tryz.prog 112 #[.pointer (some ⟨b, 0, none⟩)] w fun e w' => e = .returned (.string (slashesF p.sch.data.toList)) ∧ Below w.heap.size w w' := by
  have hc := h.cell 0
  simp only [PSt.cells] at hc
  unfold slashesF
  cases hsp : specialB p.sch.data.toList with
  | true =>
    have HS := Lib.hid hsp
    clear hsp
    go_enter Tryz.func112, Tryz.ntmps112
    go_wp2_with (go_at_call 107; refine (special_c _ _ hs).mono ?_; rintro e w1 ⟨rfl, hb⟩; rw [HS.out])
    go_ret
    exact ⟨rfl, hb⟩
  | false =>
    have HS := Lib.hid hsp
    clear hsp
    go_enter Tryz.func112, Tryz.ntmps112
    go_wp2_with (go_at_call 107; refine (special_c _ _ hs).mono ?_; rintro e w1 ⟨rfl, hb⟩; rw [HS.out])
    go_ret
    exact ⟨rfl, hb⟩

/-- Without a base no scheme is the base's. -/
theorem based_c (p : PSt) (b : Nat) (s : ByteArray) (w : World) (h : ParserAt w b p) :
    Calls Tryz.prog 105 #[.pointer (some ⟨b, 0, none⟩), .string s] w fun e w' => e = .returned (.bool false) ∧ w = w' := by
  have hc := h.cell 13
  simp only [PSt.cells] at hc
  go_enter Tryz.func105, Tryz.ntmps105
  go_wp2
  go_ret
  exact ⟨rfl, rfl⟩
end Go.Proofs.YtibgiohijknmbaaGreatDoor

/-
  What a replacer over single bytes makes of a text: plain lists.
-/
namespace Go.Proofs.YtibgiohijknmbaaGreatDoor
open Go.RowKit
set_option linter.unusedVariables false
set_option linter.unusedSimpArgs false

def rep1 (ps : Pairs) (c : UInt8) : List UInt8 := (look ps c).getD [c]
def repL (ps : Pairs) (s : List UInt8) : List UInt8 := s.flatMap (rep1 ps)
def gain (ps : Pairs) (s : List UInt8) : Int := ((repL ps s).length : Int) - (s.length : Int)
def chg (ps : Pairs) (s : List UInt8) : Bool := s.any fun c => (look ps c).isSome
def gsum (l : Pairs) (s : List UInt8) : Int := (l.map fun p => ((s.count p.1 : Nat) : Int) * ((p.2.length : Int) - 1)).sum
def gany (l : Pairs) (s : List UInt8) : Bool := l.any fun p => s.count p.1 != 0

theorem repL_append (ps : Pairs) (a b : List UInt8) : repL ps (a ++ b) = repL ps a ++ repL ps b := by simp [repL]
theorem repL_one (ps : Pairs) (c : UInt8) : repL ps [c] = rep1 ps c := by simp [repL]
theorem gain_snoc (ps : Pairs) (l : List UInt8) (c : UInt8) : gain ps (l ++ [c]) = gain ps l + (((rep1 ps c).length : Int) - 1) := by
  unfold gain
  rw [repL_append, repL_one]
  simp only [List.length_append, List.length_singleton]
  omega
theorem chg_snoc (ps : Pairs) (l : List UInt8) (c : UInt8) : chg ps (l ++ [c]) = (chg ps l || (look ps c).isSome) := by simp [chg]
theorem chg_false (ps : Pairs) (s : List UInt8) (h : chg ps s = false) : repL ps s = s := by
  induction s with
  | nil => rfl
  | cons c t ih =>
    have e : chg ps (c :: t) = ((look ps c).isSome || chg ps t) := by simp [chg]
    rw [e, Bool.or_eq_false_iff] at h
    have e2 : repL ps (c :: t) = rep1 ps c ++ repL ps t := by simp [repL]
    rw [e2, ih h.2]
    have : look ps c = none := by simpa using h.1
    simp [rep1, this]
theorem gain_cons (ps : Pairs) (c : UInt8) (t : List UInt8) : gain ps (c :: t) = gain ps t + (((rep1 ps c).length : Int) - 1) := by
  unfold gain
  have e2 : repL ps (c :: t) = rep1 ps c ++ repL ps t := by simp [repL]
  rw [e2]
  simp only [List.length_append, List.length_cons]
  omega
theorem look_none (ps : Pairs) (c : UInt8) (h : c ∉ ps.map (·.1)) : look ps c = none := by
  unfold look
  rw [List.find?_eq_none.2]
  · rfl
  · intro p hp hpe
    exact h (List.mem_map.2 ⟨p, hp, by simpa using hpe⟩)
theorem gain_pair (p : UInt8 × List UInt8) (ps : Pairs) (h : p.1 ∉ ps.map (·.1)) (s : List UInt8) :
    gain (p :: ps) s = ((s.count p.1 : Nat) : Int) * ((p.2.length : Int) - 1) + gain ps s := by
  induction s with
  | nil => simp [gain, repL]
  | cons c t ih =>
    rw [gain_cons, gain_cons, ih, List.count_cons]
    by_cases e : c = p.1
    · subst e
      have h1 : rep1 (p :: ps) p.1 = p.2 := by simp [rep1, look]
      have h2 : rep1 ps p.1 = [p.1] := by simp [rep1, look_none ps _ h]
      rw [h1, h2]
      simp only [beq_self_eq_true, if_true, List.length_singleton, Int.natCast_add, Int.natCast_one, Int.add_mul, Int.one_mul]
      omega
    · have h1 : rep1 (p :: ps) c = rep1 ps c := by simp [rep1, look, Ne.symm e]
      rw [h1]
      simp [e]
      omega
theorem gain_gsum (ps : Pairs) (h : (ps.map (·.1)).Nodup) (s : List UInt8) : gain ps s = gsum ps s := by
  induction ps with
  | nil =>
    have h0 := chg_false [] s (by simp [chg, look])
    unfold gain
    rw [h0]
    simp [gsum]
  | cons p t ih =>
    rw [List.map_cons, List.nodup_cons] at h
    rw [gain_pair p t h.1 s, ih h.2]
    simp [gsum]
theorem chg_gany (ps : Pairs) (s : List UInt8) : chg ps s = gany ps s := by
  rw [Bool.eq_iff_iff]
  unfold chg gany
  simp only [List.any_eq_true, bne_iff_ne, ne_eq, List.count_eq_zero]
  constructor
  · rintro ⟨c, hc, hs⟩
    obtain ⟨n, hn⟩ := Option.isSome_iff_exists.1 hs
    unfold look at hn
    obtain ⟨p, hp, rfl⟩ := Option.map_eq_some_iff.1 hn
    have h1 := List.mem_of_find?_eq_some hp
    have h2 := List.find?_some hp
    exact ⟨p, h1, fun h => h (by rw [show p.1 = c by simpa using h2]; exact hc)⟩
  · rintro ⟨p, hp, hs⟩
    refine ⟨p.1, Classical.not_not.1 hs, ?_⟩
    unfold look
    rw [Option.isSome_map]
    exact List.find?_isSome.2 ⟨p, hp, by simp⟩
theorem gsum_reverse (l : Pairs) (s : List UInt8) : gsum l.reverse s = gsum l s := by
  unfold gsum
  rw [List.map_reverse, List.sum_reverse]
theorem gany_reverse (l : Pairs) (s : List UInt8) : gany l.reverse s = gany l s := by simp [gany]
theorem gsum_snoc (l : Pairs) (p : UInt8 × List UInt8) (s : List UInt8) : gsum (l ++ [p]) s = gsum l s + ((s.count p.1 : Nat) : Int) * ((p.2.length : Int) - 1) := by simp [gsum]
theorem gany_snoc (l : Pairs) (p : UInt8 × List UInt8) (s : List UInt8) : gany (l ++ [p]) s = (gany l s || (s.count p.1 != 0)) := by simp [gany]
theorem look_long (ps : Pairs) (c : UInt8) (n : List UInt8) (h : ∀ p ∈ ps, p.2.length ≤ 1000) (hl : look ps c = some n) : n.length ≤ 1000 := by
  unfold look at hl
  obtain ⟨p, hp, rfl⟩ := Option.map_eq_some_iff.1 hl
  exact h p (List.mem_of_find?_eq_some hp)
theorem rep1_le (ps : Pairs) (c : UInt8) (h : ∀ p ∈ ps, p.2.length ≤ 1000) : (rep1 ps c).length ≤ 1000 := by
  unfold rep1
  cases e : look ps c with
  | none => simp
  | some n => exact look_long ps c n h e
theorem repL_le (ps : Pairs) (h : ∀ p ∈ ps, p.2.length ≤ 1000) (s : List UInt8) : (repL ps s).length ≤ 1000 * s.length := by
  induction s with
  | nil => simp [repL]
  | cons c t ih =>
    have e2 : repL ps (c :: t) = rep1 ps c ++ repL ps t := by simp [repL]
    have := rep1_le ps c h
    rw [e2, List.length_append, List.length_cons]
    omega
theorem repL_take_le (ps : Pairs) (s : List UInt8) (k : Nat) (hk : k < s.length) : (repL ps (s.take k)).length + (rep1 ps (s.getD k 0)).length ≤ (repL ps s).length := by
  have e : s = s.take k ++ (s.getD k 0 :: s.drop (k + 1)) := by
    have : s.drop k = s.getD k 0 :: s.drop (k + 1) := by
      rw [List.drop_eq_getElem_cons hk, List.getD_eq_getElem?_getD, List.getElem?_eq_getElem hk]
      rfl
    rw [← this, List.take_append_drop]
  have e2 : repL ps s = repL ps (s.take k) ++ (rep1 ps (s.getD k 0) ++ repL ps (s.drop (k + 1))) := by
    conv => lhs; rw [e]
    rw [repL_append]
    congr 1
  rw [e2]
  simp only [List.length_append]
  omega
theorem strOfNums_bytes (l : List UInt8) : strOfNums (l.map fun b => ((b.toNat : Nat) : Int)) = ⟨l.toArray⟩ := by
  unfold strOfNums
  rw [List.map_map]
  congr 2
  conv => rhs; rw [← List.map_id l]
  refine List.map_congr_left fun b _ => ?_
  simp
theorem self_bytes (s : ByteArray) : s = ⟨s.data.toList.toArray⟩ := by cases s; simp
theorem take_set_snoc (dst : List Value) (j : Nat) (v : Value) (h : j < dst.length) : (dst.set j v).take (j + 1) = dst.take j ++ [v] := by
  rw [List.take_succ_eq_append_getElem (by simpa using h), List.take_set_of_le (Nat.le_refl _)]
  simp
theorem mul_bound (c x M : Int) (h0 : 0 ≤ c) (h1 : c ≤ M) (h2 : -1 ≤ x) (h3 : x ≤ 999) : -M ≤ c * x ∧ c * x ≤ 999 * M := by
  have a := Int.mul_le_mul_of_nonneg_left h2 h0
  have b := Int.mul_le_mul_of_nonneg_left h3 h0
  omega
theorem gsum_bound (l : Pairs) (s : List UInt8) (hs : s.length ≤ 4294967296) (h : ∀ p ∈ l, p.2.length ≤ 1000) : -((l.length : Int) * 4294967296) ≤ gsum l s ∧ gsum l s ≤ (l.length : Int) * 4294967296000 := by
  induction l with
  | nil => simp [gsum]
  | cons p t ih =>
    have ih := ih fun q hq => h q (List.mem_cons_of_mem _ hq)
    have hp := h p List.mem_cons_self
    have hc := List.count_le_length (a := p.1) (l := s)
    have hb := mul_bound ((s.count p.1 : Nat) : Int) ((p.2.length : Int) - 1) 4294967296 (by omega) (by omega) (by omega) (by omega)
    have e : gsum (p :: t) s = ((s.count p.1 : Nat) : Int) * ((p.2.length : Int) - 1) + gsum t s := by simp [gsum]
    rw [e, List.length_cons]
    generalize ((s.count p.1 : Nat) : Int) * ((p.2.length : Int) - 1) = z at *
    omega
end Go.Proofs.YtibgiohijknmbaaGreatDoor

/-
  parser.finish, parser.opaque, parser.schemed where the path is opaque.
-/
namespace Go.Proofs.YtibgiohijknmbaaGreatDoor
open Go.RowKit
set_option linter.unusedVariables false
set_option linter.unusedSimpArgs false

def bstr (l : List UInt8) : ByteArray := ⟨l.toArray⟩
def escS (set : Int) (s : ByteArray) : ByteArray := ⟨(escL set s.data.toList).toArray⟩
def querySet (p : PSt) : Int := if specialB p.sch.data.toList = true then 3 else 2
def PSt.finish (p : PSt) : PSt := { p with query := if p.q = ⟨#[]⟩ then p.query else escS (querySet p) p.q, frag := escS 1 p.f }

set_option maxRecDepth 100000 in
set_option maxHeartbeats 1000000 in
/-- finish, from its second half on: the fragment. -/
theorem finish_c (p : PSt) (b : Nat) (w : World) (h : ParserAt w b p) (hs : p.sch.size ≤ maxLen) (hq : p.q.size ≤ 1073741824) (hf : p.f.size ≤ 1073741824) :
    Calls Tryz.prog 59 #[.pointer (some ⟨b, 0, none⟩)] w fun e w' => e = .returned (.tuple #[]) ∧ ParserAt w' b p.finish ∧ w.grownBy w' (some b) := by
  have hbw := h.lt
  have c0 := h.cell 0
  have c15 := h.cell 15
  have c16 := h.cell 16
  simp only [PSt.cells] at c0 c15 c16
  have c11 := h.cell 11
  have c12 := h.cell 12
  simp only [PSt.cells] at c11 c12
  have fz := fun j => h.free j
  have hp : p.finish = { p with query := if p.q = ⟨#[]⟩ then p.query else escS (querySet p) p.q, frag := escS 1 p.f } := rfl
  have hset : 0 ≤ querySet p ∧ querySet p ≤ 6 := by unfold querySet; split <;> omega
  have hqs : querySet p = if specialB p.sch.data.toList = true then 3 else 2 := rfl
  generalize p.finish = p' at *
  have HP := Lib.hid hp
  generalize querySet p = set at *
  have HS := Lib.hid hqs
  clear hp hqs
  have hcv := fun W => esc_conv p.f W
  by_cases hq0 : p.q = ⟨#[]⟩
  · rw [hq0] at c15
    have HQ := Lib.hid hq0
    clear hq0 hq c11
    go_enter Tryz.func59, Tryz.ntmps59
    go_wp2_with (go_at_call 107; refine (special_c _ _ hs).mono ?_; rintro e w1 ⟨rfl, hb⟩; obtain ⟨hk, hz⟩ := below_cells hb)
    all_goals
      refine (esc_at 1 p.f w1 _ _ rfl rfl (by decide) (by decide) hf).mono ?_
      rintro e w2 ⟨rfl, hb2⟩
      have hB := hb.trans (hb2.mono hb.size)
      obtain ⟨hk2, hz2⟩ := below_cells hB
      have hP2 := h.below hB
      go_wp2
      go_end0
      exact ⟨rfl, hP2.set (by rw [HP.out]; simp [PSt.cells, HQ.out, escS]), grown_set (grown_below hB _) _ _⟩
  · have hqe : p.q.toList.isEmpty = false := by
      rw [ByteArray.toList_eq]
      cases hl : p.q.data.toList with
      | nil =>
        refine absurd ?_ hq0
        have e := self_bytes p.q
        rw [hl] at e
        exact e
      | cons _ _ => rfl
    have HQ := Lib.hid hq0
    have hq1 : ¬ p.q = ⟨#[]⟩ := hq0
    have hcq := fun W => esc_conv p.q W
    clear hq0
    cases hsp : specialB p.sch.data.toList with
    | true =>
      have hset : set = 3 := by rw [HS.out, if_pos hsp]
      have HS := Lib.hid hset
      have HSP := Lib.hid hsp
      clear hsp hset
      go_enter Tryz.func59, Tryz.ntmps59
      go_wp2_with (go_at_call 107; refine (special_c _ _ hs).mono ?_; rintro e w1 ⟨rfl, hb⟩; obtain ⟨hk, hz⟩ := below_cells hb; rw [HSP.out])
      refine (esc_at 3 p.q w1 _ _ rfl rfl (by decide) (by decide) hq).mono ?_
      rintro e w2 ⟨rfl, hb2⟩
      have hB := hb.trans (hb2.mono hb.size)
      obtain ⟨hk2, hz2⟩ := below_cells hB
      have hP2 := (h.below hB).set (j := 11) (v := .string ⟨(escL 3 p.q.data.toList).toArray⟩) (p' := { p with query := escS 3 p.q }) (by simp [PSt.cells, escS])
      have hG2 := grown_set (grown_below hB (some b)) 11 (.string ⟨(escL 3 p.q.data.toList).toArray⟩)
      clear hk hz hb hb2
      go_wp2_with fail
      refine (esc_at 1 p.f (w2.setCell ⟨b, 11, none⟩ (.string ⟨(escL 3 p.q.data.toList).toArray⟩)) w2.heap.size _ (by simp [World.setCell]) rfl (by decide) (by decide) hf).mono ?_
      rintro e w3 ⟨rfl, hb3⟩
      have hP3 := hP2.below hb3
      have hG3 := hG2.trans (grown_below hb3 (some b))
      have hlt3 : b < w3.heap.size := hP3.lt
      have k12 := hP3.cell 12
      simp only [PSt.cells] at k12
      have fz3 := hP3.free 12
      clear hk2 hz2 hB
      go_wp2
      go_end0
      exact ⟨rfl, hP3.set (by rw [HP.out, HS.out]; simp [PSt.cells, HQ.out, escS]), grown_set hG3 _ _⟩
    | false =>
      have hset : set = 2 := by rw [HS.out, if_neg (by rw [hsp]; decide)]
      have HS := Lib.hid hset
      have HSP := Lib.hid hsp
      clear hsp hset
      go_enter Tryz.func59, Tryz.ntmps59
      go_wp2_with (go_at_call 107; refine (special_c _ _ hs).mono ?_; rintro e w1 ⟨rfl, hb⟩; obtain ⟨hk, hz⟩ := below_cells hb; rw [HSP.out])
      refine (esc_at 2 p.q w1 _ _ rfl rfl (by decide) (by decide) hq).mono ?_
      rintro e w2 ⟨rfl, hb2⟩
      have hB := hb.trans (hb2.mono hb.size)
      obtain ⟨hk2, hz2⟩ := below_cells hB
      have hP2 := (h.below hB).set (j := 11) (v := .string ⟨(escL 2 p.q.data.toList).toArray⟩) (p' := { p with query := escS 2 p.q }) (by simp [PSt.cells, escS])
      have hG2 := grown_set (grown_below hB (some b)) 11 (.string ⟨(escL 2 p.q.data.toList).toArray⟩)
      clear hk hz hb hb2
      go_wp2_with fail
      refine (esc_at 1 p.f (w2.setCell ⟨b, 11, none⟩ (.string ⟨(escL 2 p.q.data.toList).toArray⟩)) w2.heap.size _ (by simp [World.setCell]) rfl (by decide) (by decide) hf).mono ?_
      rintro e w3 ⟨rfl, hb3⟩
      have hP3 := hP2.below hb3
      have hG3 := hG2.trans (grown_below hb3 (some b))
      have hlt3 : b < w3.heap.size := hP3.lt
      have k12 := hP3.cell 12
      simp only [PSt.cells] at k12
      have fz3 := hP3.free 12
      clear hk2 hz2 hB
      go_wp2
      go_end0
      exact ⟨rfl, hP3.set (by rw [HP.out, HS.out]; simp [PSt.cells, HQ.out, escS]), grown_set hG3 _ _⟩

/-! an opaque path -/
def opqS (more : Bool) (s : ByteArray) : ByteArray :=
  if more = true ∧ Lib.hasSuffix s.data.toList [32] = true then ⟨(escL 0 s.data.toList.dropLast).toArray⟩ ++ ⟨#[37, 50, 48]⟩ else escS 0 s ++ ⟨#[]⟩
def PSt.opqd (p : PSt) : PSt := { p with opq := true, text := opqS (p.hasQ || p.hasF) p.rest }

theorem suffix_size {s : ByteArray} (h : Lib.hasSuffix s.data.toList [32] = true) : 1 ≤ s.size := by
  have sz : s.size = s.data.toList.length := by rw [Array.length_toList]; rfl
  rw [sz]
  unfold Lib.hasSuffix at h
  have := (List.isSuffixOf_iff_suffix.1 h).length_le
  simpa using this

set_option maxRecDepth 100000 in
set_option maxHeartbeats 1000000 in
theorem opaque_c (p : PSt) (b : Nat) (w : World) (h : ParserAt w b p) (hr : p.rest.size ≤ 1073741824) :
    Calls Tryz.prog 114 #[.pointer (some ⟨b, 0, none⟩)] w fun e w' => e = .returned (.tuple #[]) ∧ ParserAt w' b p.opqd ∧ w.grownBy w' (some b) := by
  have hbw := h.lt
  have c14 : w.cell? ⟨b, 14, none⟩ = some (.string p.rest) := h.cell 14
  have c9 : w.cell? ⟨b, 9, none⟩ = some (.bool p.hasQ) := h.cell 9
  have c10 : w.cell? ⟨b, 10, none⟩ = some (.bool p.hasF) := h.cell 10
  have c6 : w.cell? ⟨b, 6, none⟩ = some (.bool p.opq) := h.cell 6
  have c7 : w.cell? ⟨b, 7, none⟩ = some (.string p.text) := h.cell 7
  have fz := fun j => h.free j
  have hp : p.opqd = { p with opq := true, text := opqS (p.hasQ || p.hasF) p.rest } := rfl
  have hcv := fun s W => esc_conv s W
  generalize p.opqd = p' at *
  have HP := Lib.hid hp
  clear hp
  have hsx := fun W => Tryz.strings_HasSuffix p.rest ⟨#[32]⟩ W (by omega)
  have e32 : (⟨#[32]⟩ : ByteArray).data.toList = [32] := rfl
  rw [e32] at hsx
  clear e32
  generalize hQ : p.hasQ = bq at *
  generalize hF : p.hasF = bf at *
  have HQ := Lib.hid hQ
  have HF := Lib.hid hF
  clear hQ hF
  have hend : ∀ (w2 : World) (t : ByteArray), Below w.heap.size w w2 → t = opqS (bq || bf) p.rest → ParserAt ((w2.setCell ⟨b, 6, none⟩ (.bool true)).setCell ⟨b, 7, none⟩ (.string t)) b p' ∧ w.grownBy ((w2.setCell ⟨b, 6, none⟩ (.bool true)).setCell ⟨b, 7, none⟩ (.string t)) (some b) := fun w2 t hB ht => by
    refine ⟨?_, grown_set (grown_set (grown_below hB _) _ _) _ _⟩
    refine ParserAt.set (p := { p with opq := true }) (ParserAt.set (p := p) (h.below hB) (by simp [PSt.cells])) ?_
    rw [HP.out, ht]
    simp [PSt.cells, HQ.out, HF.out]
  have HE := Lib.hid hend
  clear hend
  have hsz : p.rest.data.toList.length = p.rest.size := by rw [Array.length_toList]; rfl
  by_cases hm : (bq || bf) = true
  · by_cases hx : Lib.hasSuffix p.rest.data.toList [32] = true
    · have h1 := suffix_size hx
      have hre : opqS (bq || bf) p.rest = ⟨(escL 0 p.rest.data.toList.dropLast).toArray⟩ ++ ⟨#[37, 50, 48]⟩ := by unfold opqS; rw [if_pos ⟨hm, hx⟩]
      have HR := Lib.hid hre
      have hsx' : ∀ W, Calls Tryz.prog 174 #[.string p.rest, .string ⟨#[32]⟩] W fun e w' => e = .returned (.bool true) ∧ w' = W := by rw [hx] at hsx; exact hsx
      have hse : (p.rest.extract 0 (p.rest.size - 1)).size = p.rest.size - 1 := by rw [ByteArray.size_extract]; omega
      have hes : (p.rest.extract 0 (p.rest.size - 1)).size ≤ 1073741824 := by rw [hse]; omega
      have hln : (escL 0 p.rest.data.toList.dropLast).length + 3 ≤ 9223372036854775807 := by
        have := escL_length 0 p.rest.data.toList.dropLast
        rw [List.length_dropLast] at this
        omega
      clear hre hsx hx h hsz
      have hbb : (bq = true) ∨ (bq = false ∧ bf = true) := by cases bq <;> cases bf <;> simp_all
      clear hm
      rcases hbb with rfl | ⟨rfl, rfl⟩
      all_goals
        go_enter Tryz.func114, Tryz.ntmps114
        go_wp2
        go_quiet (fail)
        go_wp2_with fail
        refine (hsx' _).mono ?_
        rintro e w' ⟨rfl, rfl⟩
        go_wp2_with fail
        refine (esc_at 0 (p.rest.extract 0 (p.rest.size - 1)) _ w.heap.size _ (by rfl) hse (by decide) (by decide) hes).mono ?_
        rintro e w2 ⟨rfl, hb2⟩
        have hB := (below_drewN w _).trans hb2
        obtain ⟨hk2, hz2⟩ := below_cells hB
        go_wp2
        go_end0
        exact ⟨rfl, HE.out _ _ hB HR.out.symm⟩
    · have hre : opqS (bq || bf) p.rest = escS 0 p.rest ++ ⟨#[]⟩ := by unfold opqS; rw [if_neg (fun hh => hx hh.2)]
      have HR := Lib.hid hre
      have hx' : Lib.hasSuffix p.rest.data.toList [32] = false := by simpa using hx
      have hsx' : ∀ W, Calls Tryz.prog 174 #[.string p.rest, .string ⟨#[32]⟩] W fun e w' => e = .returned (.bool false) ∧ w' = W := by rw [hx'] at hsx; exact hsx
      have hln : (escL 0 p.rest.data.toList).length ≤ 9223372036854775807 := by
        have := escL_size 0 p.rest
        omega
      clear hre hsx hx hx' h hsz
      have hbb : (bq = true) ∨ (bq = false ∧ bf = true) := by cases bq <;> cases bf <;> simp_all
      clear hm
      rcases hbb with rfl | ⟨rfl, rfl⟩
      all_goals
        go_enter Tryz.func114, Tryz.ntmps114
        go_wp2
        go_quiet (fail)
        go_wp2_with fail
        refine (hsx' _).mono ?_
        rintro e w' ⟨rfl, rfl⟩
        go_wp2_with fail
        refine (esc_at 0 p.rest _ w.heap.size _ (by rfl) rfl (by decide) (by decide) hr).mono ?_
        rintro e w2 ⟨rfl, hb2⟩
        have hB := (below_drewN w _).trans hb2
        obtain ⟨hk2, hz2⟩ := below_cells hB
        go_wp2
        go_end0
        exact ⟨rfl, HE.out _ _ hB HR.out.symm⟩
  · have hre : opqS (bq || bf) p.rest = escS 0 p.rest ++ ⟨#[]⟩ := by unfold opqS; rw [if_neg (fun hh => hm hh.1)]
    have HR := Lib.hid hre
    have hln : (escL 0 p.rest.data.toList).length ≤ 9223372036854775807 := by
      have := escL_size 0 p.rest
      omega
    have hbb : bq = false ∧ bf = false := by cases bq <;> cases bf <;> simp_all
    obtain ⟨rfl, rfl⟩ := hbb
    clear hre hsx hm h hsz
    go_enter Tryz.func114, Tryz.ntmps114
    go_wp2
    go_quiet (fail)
    go_wp2_with fail
    refine (esc_at 0 p.rest _ w.heap.size _ (by rfl) rfl (by decide) (by decide) hr).mono ?_
    rintro e w2 ⟨rfl, hb2⟩
    have hB := (below_drewN w _).trans hb2
    obtain ⟨hk2, hz2⟩ := below_cells hB
    go_wp2
    go_end0
    exact ⟨rfl, HE.out _ _ hB HR.out.symm⟩
end Go.Proofs.YtibgiohijknmbaaGreatDoor

/-
  parser.schemed where the path is opaque; parser.plain without a base.
-/
namespace Go.Proofs.YtibgiohijknmbaaGreatDoor
open Go.RowKit
set_option linter.unusedVariables false
set_option linter.unusedSimpArgs false

theorem str_ne {s : ByteArray} {l : List UInt8} (h : s.data.toList ≠ l) : ¬ s = ⟨l.toArray⟩ ∧ ¬ s.toList = l ∧ (s.toList == l) = false := by
  have h1 : ¬ s = ⟨l.toArray⟩ := by intro e; rw [e] at h; exact h rfl
  have h2 : ¬ s.toList = l := by rw [ByteArray.toList_eq]; exact h
  exact ⟨h1, h2, by simpa using h2⟩

theorem prefix2 {s : List UInt8} (h : Lib.hasPrefix s [47] = false) : Lib.hasPrefix s [47, 47] = false := by
  unfold Lib.hasPrefix at *
  cases s with
  | nil => rfl
  | cons a t => simp [List.isPrefixOf] at h ⊢; intro h'; exact absurd h' h

set_option maxRecDepth 100000 in
set_option maxHeartbeats 1000000 in
theorem schemed_opq (p : PSt) (b : Nat) (w : World) (h : ParserAt w b p) (hs : p.sch.size ≤ maxLen) (hr : p.rest.size ≤ 1073741824) (hsp : specialB p.sch.data.toList = false) (hpre : Lib.hasPrefix p.rest.data.toList [47] = false) :
    Calls Tryz.prog 57 #[.pointer (some ⟨b, 0, none⟩)] w fun e w' => e = .returned (.tuple #[]) ∧ ParserAt w' b p.opqd ∧ w.grownBy w' (some b) := by
  have hbw := h.lt
  have c0 : w.cell? ⟨b, 0, none⟩ = some (.string p.sch) := h.cell 0
  have c14 : w.cell? ⟨b, 14, none⟩ = some (.string p.rest) := h.cell 14
  have hnf : p.sch.data.toList ≠ [102, 105, 108, 101] := fun e => by rw [e] at hsp; revert hsp; decide
  obtain ⟨hn1, hn2, hn3⟩ := str_ne hnf
  have hp1 := fun W => Tryz.strings_HasPrefix p.rest ⟨#[47]⟩ W
  have hp2 := fun W => Tryz.strings_HasPrefix p.rest ⟨#[47, 47]⟩ W
  have e1 : (⟨#[47]⟩ : ByteArray).data.toList = [47] := rfl
  have e2 : (⟨#[47, 47]⟩ : ByteArray).data.toList = [47, 47] := rfl
  rw [e1, hpre] at hp1
  rw [e2, prefix2 hpre] at hp2
  have HSP := Lib.hid hsp
  clear e1 e2 hpre hsp hnf
  go_enter Tryz.func57, Tryz.ntmps57
  go_wp2_with fail
  refine (special_c _ _ hs).mono ?_
  rintro e w1 ⟨rfl, hb⟩
  rw [HSP.out]
  obtain ⟨hk1, hz1⟩ := below_cells hb
  go_wp2_with fail
  refine (special_c _ _ hs).mono ?_
  rintro e w2 ⟨rfl, hb2⟩
  rw [HSP.out]
  have hB := hb.trans (hb2.mono hb.size)
  obtain ⟨hk2, hz2⟩ := below_cells hB
  clear hk1 hz1 hb hb2
  go_wp2_with fail
  refine (hp2 _).mono ?_
  rintro e w' ⟨rfl, rfl⟩
  go_wp2_with fail
  refine (hp1 _).mono ?_
  rintro e w' ⟨rfl, rfl⟩
  go_wp2_with fail
  refine (opaque_c p b _ (h.below hB) hr).mono ?_
  rintro e w3 ⟨rfl, hP, hG⟩
  go_wp2
  go_end0
  exact ⟨rfl, hP, (grown_below hB _).trans hG⟩

theorem plain_c (p : PSt) (b : Nat) (w : World) (h : ParserAt w b p) :
    Calls Tryz.prog 58 #[.pointer (some ⟨b, 0, none⟩)] w fun e w' => e = .returned (.tuple #[]) ∧ ParserAt w' b { p with bad := true } ∧ w.grownBy w' (some b) := by
  have hbw := h.lt
  have c13 : w.cell? ⟨b, 13, none⟩ = some (.pointer none) := h.cell 13
  have c17 : w.cell? ⟨b, 17, none⟩ = some (.bool p.bad) := h.cell 17
  have fz := fun j => h.free j
  go_enter Tryz.func58, Tryz.ntmps58
  go_wp2
  go_end0
  exact ⟨rfl, h.set (by simp [PSt.cells]), grown_set (grown_below (Below.refl _ _) _) _ _⟩
end Go.Proofs.YtibgiohijknmbaaGreatDoor
