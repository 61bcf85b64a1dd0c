/-
  Plain lemmas: what Clean and Cut make of texts in printable signs.
-/
import Derived.Test.YtibgiohijknmbaaGreatDoorParse
namespace Go.Proofs.YtibgiohijknmbaaGreatDoor
open Go.RowKit
set_option linter.unusedVariables false
set_option linter.unusedSimpArgs false

/-- Printable signs, no blanks. -/
def Ink (l : List UInt8) : Prop := ∀ c ∈ l, 33 ≤ c.toNat ∧ c.toNat ≤ 126
theorem Ink.tail {c : UInt8} {l : List UInt8} (h : Ink (c :: l)) : Ink l := fun x hx => h x (List.mem_cons_of_mem _ hx)
theorem Ink.app {a b : List UInt8} (ha : Ink a) (hb : Ink b) : Ink (a ++ b) := fun x hx => by
  rcases List.mem_append.1 hx with h | h
  · exact ha x h
  · exact hb x h
theorem Ink.left {a b : List UInt8} (h : Ink (a ++ b)) : Ink a := fun x hx => h x (List.mem_append_left _ hx)
theorem Ink.right {a b : List UInt8} (h : Ink (a ++ b)) : Ink b := fun x hx => h x (List.mem_append_right _ hx)

theorem decF_ink (l : List UInt8) (h : ∀ c ∈ l, c.toNat < 128) : decF l = l.map fun c => (c.toNat : Int) := by
  induction l with
  | nil => rfl
  | cons c t ih =>
    have hc := h c (List.mem_cons_self ..)
    have e : firstF (c :: t) = ((c.toNat : Int), 1) := by
      unfold firstF
      simp [hc]
    rw [decF_cons _ (by simp), e]
    simp only [List.drop_succ_cons, List.drop_zero, List.map_cons]
    rw [ih (fun x hx => h x (List.mem_cons_of_mem _ hx))]
theorem encF_ink (l : List UInt8) (h : ∀ c ∈ l, c.toNat < 128) : encF (l.map fun c => (c.toNat : Int)) = l := by
  induction l with
  | nil => rfl
  | cons c t ih =>
    have hc := h c (List.mem_cons_self ..)
    have e : runeB (c.toNat : Int) = [c] := by
      unfold runeB Lib.encodeRune
      rw [Lib.encodeRuneZ_one (by omega) (by omega)]
      simp
    have := ih (fun x hx => h x (List.mem_cons_of_mem _ hx))
    simp only [encF, List.map_cons, List.flatMap_cons] at this ⊢
    rw [e, this]
    rfl
theorem utfF_ascii (l : List UInt8) (h : ∀ c ∈ l, c.toNat < 128) : utfF l = l := by
  unfold utfF
  rw [decF_ink l h, encF_ink l h]

theorem trimF_ink (l : List UInt8) (h : Ink l) : Lib.trimF leSpace (bstr l) = bstr l := by
  by_cases h0 : l = []
  · subst h0
    rfl
  · have hlen : 0 < l.length := List.length_pos_iff.2 h0
    have hsz : (bstr l).size = l.length := by show l.toArray.size = _; simp
    have hget : ∀ (k : Nat) (hk : k < (bstr l).size), (bstr l)[k]'hk = l.getD k 0 := fun k hk => by
      rw [List.getD_eq_getElem?_getD, List.getElem?_eq_getElem (by omega)]
      rfl
    have hmem : ∀ k, k < l.length → 33 ≤ (l.getD k 0).toNat ∧ (l.getD k 0).toNat ≤ 126 := fun k hk => by
      rw [List.getD_eq_getElem?_getD, List.getElem?_eq_getElem hk]
      exact h _ (List.getElem_mem hk)
    have h1 : Lib.idxFunc leSpace false (bstr l) = 0 := by
      unfold Lib.idxFunc
      obtain ⟨f, hf⟩ : ∃ f, (bstr l).size = f + 1 := ⟨l.length - 1, by omega⟩
      rw [hf]
      unfold Lib.idxFuncFrom
      have hp : 0 < (bstr l).size := by omega
      have hm := hmem 0 hlen
      rw [if_pos (by omega), decode_ascii _ _ hp (by rw [hget]; omega), hget]
      rw [if_pos (by unfold leSpace; simp only [decide_eq_false_iff_not]; omega)]
      rfl
    have h2 : Lib.trimLeftF leSpace (bstr l) = bstr l := by
      unfold Lib.trimLeftF
      rw [h1]
      simp
    have h3 : Lib.lastIdxFunc leSpace false (bstr l) = ((l.length - 1 : Nat) : Int) := by
      unfold Lib.lastIdxFunc
      obtain ⟨f, hf⟩ : ∃ f, (bstr l).size = f + 1 := ⟨l.length - 1, by omega⟩
      have hm := hmem (l.length - 1) (by omega)
      have e : Lib.decodeLastL ((bstr l).data.toList.take (bstr l).size) = ((l.getD (l.length - 1) 0).toNat, 1) := by
        rw [bstr_list, hsz, List.take_length]
        unfold Lib.decodeLastL
        rw [if_neg h0, if_pos (by omega)]
      rw [hf]
      unfold Lib.lastIdxFuncFrom
      rw [← hf, if_pos (by omega), e]
      simp only
      rw [if_pos (by unfold leSpace; simp only [decide_eq_false_iff_not]; omega), hsz]
    unfold Lib.trimF
    rw [h2]
    unfold Lib.trimRightF Lib.rightEndF
    rw [h3, if_pos (by omega)]
    have hm := hmem (l.length - 1) (by omega)
    have hsz2 : ((bstr l).extract (((l.length - 1 : Nat) : Int)).toNat (bstr l).size).size = 1 := by
      rw [ByteArray.size_extract, hsz]; omega
    have hd : Lib.decodeGoB ((bstr l).extract (((l.length - 1 : Nat) : Int)).toNat (bstr l).size) = ((l.getD (l.length - 1) 0).toNat, 1) := by
      unfold Lib.decodeGoB
      rw [if_neg (by omega)]
      have hp : 0 < ((bstr l).extract (((l.length - 1 : Nat) : Int)).toNat (bstr l).size).size := by omega
      have hg : ((bstr l).extract (((l.length - 1 : Nat) : Int)).toNat (bstr l).size)[0]'hp = l.getD (l.length - 1) 0 := by
        rw [ByteArray.getElem_extract]
        simp only [Int.toNat_natCast, Nat.add_zero]
        exact hget _ _
      rw [decode_ascii _ _ hp (by rw [hg]; omega), hg]
    rw [hd]
    have e2 : (((l.length - 1 : Nat) : Int)).toNat + 1 = (bstr l).size := by omega
    rw [e2]
    simp

theorem repL_id (ps : Pairs) (l : List UInt8) (h : ∀ c ∈ l, c ∉ ps.map (·.1)) : repL ps l = l := by
  induction l with
  | nil => rfl
  | cons c t ih =>
    have hc := look_none ps c (h c (List.mem_cons_self ..))
    have := ih (fun x hx => h x (List.mem_cons_of_mem _ hx))
    unfold repL at this ⊢
    rw [List.flatMap_cons, this]
    simp [rep1, hc]
theorem cleanF_ink (l : List UInt8) (h : Ink l) : cleanF l = l := by
  unfold cleanF
  rw [utfF_ascii l (fun c hc => by have := h c hc; omega)]
  have := trimF_ink l h
  unfold bstr at this
  rw [this]
  refine repL_id tabs l fun c hc hm => ?_
  have := h c hc
  simp only [tabs, List.map_cons, List.map_nil, List.mem_cons, List.not_mem_nil, or_false] at hm
  rcases hm with rfl | rfl | rfl <;> simp at this

theorem indexByte_none (l : List UInt8) (c : UInt8) (h : c ∉ l) : Lib.indexByte l c = -1 := by
  induction l with
  | nil => rfl
  | cons b t ih =>
    have hb : (b == c) = false := by
      rw [beq_eq_false_iff_ne]
      intro e
      exact h (e ▸ List.mem_cons_self ..)
    have := ih (fun hm => h (List.mem_cons_of_mem _ hm))
    simp [Lib.indexByte, hb, this]
theorem indexByte_here (a b : List UInt8) (c : UInt8) (h : c ∉ a) : Lib.indexByte (a ++ c :: b) c = (a.length : Int) := by
  induction a with
  | nil => simp [Lib.indexByte]
  | cons x t ih =>
    have hb : (x == c) = false := by
      rw [beq_eq_false_iff_ne]
      intro e
      exact h (e ▸ List.mem_cons_self ..)
    have := ih (fun hm => h (List.mem_cons_of_mem _ hm))
    simp only [List.cons_append, Lib.indexByte, hb, this]
    have : (((t.length : Int)) == -1) = false := by rw [beq_eq_false_iff_ne]; omega
    simp [this]
theorem cut_none (a : List UInt8) (c : UInt8) (h : c ∉ a) : Lib.cut a [c] = (a, [], false) := by
  unfold Lib.cut
  rw [Lib.index_one, indexByte_none a c h, if_neg (by omega)]
theorem cut_here (a b : List UInt8) (c : UInt8) (h : c ∉ a) : Lib.cut (a ++ c :: b) [c] = (a, b, true) := by
  unfold Lib.cut
  rw [Lib.index_one, indexByte_here a b c h, if_pos (by omega)]
  have e : ((a.length : Int)).toNat = a.length := by omega
  rw [e]
  simp
end Go.Proofs.YtibgiohijknmbaaGreatDoor
