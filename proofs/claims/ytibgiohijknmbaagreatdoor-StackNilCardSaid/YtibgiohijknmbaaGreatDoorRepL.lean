/-
  What a replacer over single bytes makes of a text: plain lists.
-/
import Derived.Test.YtibgiohijknmbaaGreatDoorRepB
import Derived.Lib.Strings
namespace Go.Proofs.YtibgiohijknmbaaGreatDoor
open Go.RowKit
set_option linter.unusedVariables false
set_option linter.unusedSimpArgs false

def rep1 (ps : Pairs) (c : UInt8) : List UInt8 := (look ps c).getD [c]
def repL (ps : Pairs) (s : List UInt8) : List UInt8 := s.flatMap (rep1 ps)
def gain (ps : Pairs) (s : List UInt8) : Int := ((repL ps s).length : Int) - (s.length : Int)
def chg (ps : Pairs) (s : List UInt8) : Bool := s.any fun c => (look ps c).isSome
def gsum (l : Pairs) (s : List UInt8) : Int := (l.map fun p => ((s.count p.1 : Nat) : Int) * ((p.2.length : Int) - 1)).sum
def gany (l : Pairs) (s : List UInt8) : Bool := l.any fun p => s.count p.1 != 0

theorem repL_append (ps : Pairs) (a b : List UInt8) : repL ps (a ++ b) = repL ps a ++ repL ps b := by simp [repL]
theorem repL_one (ps : Pairs) (c : UInt8) : repL ps [c] = rep1 ps c := by simp [repL]
theorem gain_snoc (ps : Pairs) (l : List UInt8) (c : UInt8) : gain ps (l ++ [c]) = gain ps l + (((rep1 ps c).length : Int) - 1) := by
  unfold gain
  rw [repL_append, repL_one]
  simp only [List.length_append, List.length_singleton]
  omega
theorem chg_snoc (ps : Pairs) (l : List UInt8) (c : UInt8) : chg ps (l ++ [c]) = (chg ps l || (look ps c).isSome) := by simp [chg]
theorem chg_false (ps : Pairs) (s : List UInt8) (h : chg ps s = false) : repL ps s = s := by
  induction s with
  | nil => rfl
  | cons c t ih =>
    have e : chg ps (c :: t) = ((look ps c).isSome || chg ps t) := by simp [chg]
    rw [e, Bool.or_eq_false_iff] at h
    have e2 : repL ps (c :: t) = rep1 ps c ++ repL ps t := by simp [repL]
    rw [e2, ih h.2]
    have : look ps c = none := by simpa using h.1
    simp [rep1, this]
theorem gain_cons (ps : Pairs) (c : UInt8) (t : List UInt8) : gain ps (c :: t) = gain ps t + (((rep1 ps c).length : Int) - 1) := by
  unfold gain
  have e2 : repL ps (c :: t) = rep1 ps c ++ repL ps t := by simp [repL]
  rw [e2]
  simp only [List.length_append, List.length_cons]
  omega
theorem look_none (ps : Pairs) (c : UInt8) (h : c ∉ ps.map (·.1)) : look ps c = none := by
  unfold look
  rw [List.find?_eq_none.2]
  · rfl
  · intro p hp hpe
    exact h (List.mem_map.2 ⟨p, hp, by simpa using hpe⟩)
theorem gain_pair (p : UInt8 × List UInt8) (ps : Pairs) (h : p.1 ∉ ps.map (·.1)) (s : List UInt8) :
    gain (p :: ps) s = ((s.count p.1 : Nat) : Int) * ((p.2.length : Int) - 1) + gain ps s := by
  induction s with
  | nil => simp [gain, repL]
  | cons c t ih =>
    rw [gain_cons, gain_cons, ih, List.count_cons]
    by_cases e : c = p.1
    · subst e
      have h1 : rep1 (p :: ps) p.1 = p.2 := by simp [rep1, look]
      have h2 : rep1 ps p.1 = [p.1] := by simp [rep1, look_none ps _ h]
      rw [h1, h2]
      simp only [beq_self_eq_true, if_true, List.length_singleton, Int.natCast_add, Int.natCast_one, Int.add_mul, Int.one_mul]
      omega
    · have h1 : rep1 (p :: ps) c = rep1 ps c := by simp [rep1, look, Ne.symm e]
      rw [h1]
      simp [e]
      omega
theorem gain_gsum (ps : Pairs) (h : (ps.map (·.1)).Nodup) (s : List UInt8) : gain ps s = gsum ps s := by
  induction ps with
  | nil =>
    have h0 := chg_false [] s (by simp [chg, look])
    unfold gain
    rw [h0]
    simp [gsum]
  | cons p t ih =>
    rw [List.map_cons, List.nodup_cons] at h
    rw [gain_pair p t h.1 s, ih h.2]
    simp [gsum]
theorem chg_gany (ps : Pairs) (s : List UInt8) : chg ps s = gany ps s := by
  rw [Bool.eq_iff_iff]
  unfold chg gany
  simp only [List.any_eq_true, bne_iff_ne, ne_eq, List.count_eq_zero]
  constructor
  · rintro ⟨c, hc, hs⟩
    obtain ⟨n, hn⟩ := Option.isSome_iff_exists.1 hs
    unfold look at hn
    obtain ⟨p, hp, rfl⟩ := Option.map_eq_some_iff.1 hn
    have h1 := List.mem_of_find?_eq_some hp
    have h2 := List.find?_some hp
    exact ⟨p, h1, fun h => h (by rw [show p.1 = c by simpa using h2]; exact hc)⟩
  · rintro ⟨p, hp, hs⟩
    refine ⟨p.1, Classical.not_not.1 hs, ?_⟩
    unfold look
    rw [Option.isSome_map]
    exact List.find?_isSome.2 ⟨p, hp, by simp⟩
theorem gsum_reverse (l : Pairs) (s : List UInt8) : gsum l.reverse s = gsum l s := by
  unfold gsum
  rw [List.map_reverse, List.sum_reverse]
theorem gany_reverse (l : Pairs) (s : List UInt8) : gany l.reverse s = gany l s := by simp [gany]
theorem gsum_snoc (l : Pairs) (p : UInt8 × List UInt8) (s : List UInt8) : gsum (l ++ [p]) s = gsum l s + ((s.count p.1 : Nat) : Int) * ((p.2.length : Int) - 1) := by simp [gsum]
theorem gany_snoc (l : Pairs) (p : UInt8 × List UInt8) (s : List UInt8) : gany (l ++ [p]) s = (gany l s || (s.count p.1 != 0)) := by simp [gany]
theorem look_long (ps : Pairs) (c : UInt8) (n : List UInt8) (h : ∀ p ∈ ps, p.2.length ≤ 1000) (hl : look ps c = some n) : n.length ≤ 1000 := by
  unfold look at hl
  obtain ⟨p, hp, rfl⟩ := Option.map_eq_some_iff.1 hl
  exact h p (List.mem_of_find?_eq_some hp)
theorem rep1_le (ps : Pairs) (c : UInt8) (h : ∀ p ∈ ps, p.2.length ≤ 1000) : (rep1 ps c).length ≤ 1000 := by
  unfold rep1
  cases e : look ps c with
  | none => simp
  | some n => exact look_long ps c n h e
theorem repL_le (ps : Pairs) (h : ∀ p ∈ ps, p.2.length ≤ 1000) (s : List UInt8) : (repL ps s).length ≤ 1000 * s.length := by
  induction s with
  | nil => simp [repL]
  | cons c t ih =>
    have e2 : repL ps (c :: t) = rep1 ps c ++ repL ps t := by simp [repL]
    have := rep1_le ps c h
    rw [e2, List.length_append, List.length_cons]
    omega
theorem repL_take_le (ps : Pairs) (s : List UInt8) (k : Nat) (hk : k < s.length) : (repL ps (s.take k)).length + (rep1 ps (s.getD k 0)).length ≤ (repL ps s).length := by
  have e : s = s.take k ++ (s.getD k 0 :: s.drop (k + 1)) := by
    have : s.drop k = s.getD k 0 :: s.drop (k + 1) := by
      rw [List.drop_eq_getElem_cons hk, List.getD_eq_getElem?_getD, List.getElem?_eq_getElem hk]
      rfl
    rw [← this, List.take_append_drop]
  have e2 : repL ps s = repL ps (s.take k) ++ (rep1 ps (s.getD k 0) ++ repL ps (s.drop (k + 1))) := by
    conv => lhs; rw [e]
    rw [repL_append]
    congr 1
  rw [e2]
  simp only [List.length_append]
  omega
theorem strOfNums_bytes (l : List UInt8) : strOfNums (l.map fun b => ((b.toNat : Nat) : Int)) = ⟨l.toArray⟩ := by
  unfold strOfNums
  rw [List.map_map]
  congr 2
  conv => rhs; rw [← List.map_id l]
  refine List.map_congr_left fun b _ => ?_
  simp
theorem self_bytes (s : ByteArray) : s = ⟨s.data.toList.toArray⟩ := by cases s; simp
theorem take_set_snoc (dst : List Value) (j : Nat) (v : Value) (h : j < dst.length) : (dst.set j v).take (j + 1) = dst.take j ++ [v] := by
  rw [List.take_succ_eq_append_getElem (by simpa using h), List.take_set_of_le (Nat.le_refl _)]
  simp
theorem mul_bound (c x M : Int) (h0 : 0 ≤ c) (h1 : c ≤ M) (h2 : -1 ≤ x) (h3 : x ≤ 999) : -M ≤ c * x ∧ c * x ≤ 999 * M := by
  have a := Int.mul_le_mul_of_nonneg_left h2 h0
  have b := Int.mul_le_mul_of_nonneg_left h3 h0
  omega
theorem gsum_bound (l : Pairs) (s : List UInt8) (hs : s.length ≤ 4294967296) (h : ∀ p ∈ l, p.2.length ≤ 1000) : -((l.length : Int) * 4294967296) ≤ gsum l s ∧ gsum l s ≤ (l.length : Int) * 4294967296000 := by
  induction l with
  | nil => simp [gsum]
  | cons p t ih =>
    have ih := ih fun q hq => h q (List.mem_cons_of_mem _ hq)
    have hp := h p List.mem_cons_self
    have hc := List.count_le_length (a := p.1) (l := s)
    have hb := mul_bound ((s.count p.1 : Nat) : Int) ((p.2.length : Int) - 1) 4294967296 (by omega) (by omega) (by omega) (by omega)
    have e : gsum (p :: t) s = ((s.count p.1 : Nat) : Int) * ((p.2.length : Int) - 1) + gsum t s := by simp [gsum]
    rw [e, List.length_cons]
    generalize ((s.count p.1 : Nat) : Int) * ((p.2.length : Int) - 1) = z at *
    omega
end Go.Proofs.YtibgiohijknmbaaGreatDoor
