/-
  parse.Parse of a text in printable signs whose path is opaque.
-/
import Derived.Test.YtibgiohijknmbaaGreatDoorPure
namespace Go.Proofs.YtibgiohijknmbaaGreatDoor
open Go.RowKit
set_option linter.unusedVariables false
set_option linter.unusedSimpArgs false

/-- A scheme in small letters that is no special one. -/
def SchemeOk (sch : List UInt8) : Prop := sch ≠ [] ∧ letterB ((sch.getD 0 0).toNat : Int) = true ∧ sch.all schemeByte = true ∧ lowerL sch = sch ∧ specialB sch = false ∧ Ink sch ∧ 58 ∉ sch ∧ 35 ∉ sch ∧ 63 ∉ sch
instance (l : List UInt8) : Decidable (Ink l) := by unfold Ink; infer_instance
instance (sch : List UInt8) : Decidable (SchemeOk sch) := by unfold SchemeOk; infer_instance
/-- What stands behind the colon: printable, no slash ahead, no ? and #. -/
def RestOk (rest : List UInt8) : Prop := Ink rest ∧ 35 ∉ rest ∧ 63 ∉ rest ∧ Lib.hasPrefix rest [47] = false
def opqText (sch rest frag : List UInt8) (hasF : Bool) : List UInt8 := (sch ++ 58 :: rest) ++ if hasF = true then 35 :: frag else []
def opqUrl (sch rest frag : List UInt8) (hasF : Bool) (pv : Value) : Array Value :=
  #[.string (bstr sch), .string ⟨#[]⟩, .string ⟨#[]⟩, .string ⟨#[]⟩, .bool false, .int .i64 (-1), .bool true, .string (bstr rest), pv, .bool false, .bool hasF, .string ⟨#[]⟩, .string (bstr frag)]

theorem escL_id (set : Int) (l : List UInt8) (h : ∀ c ∈ l, inB set c = false) : escL set l = l := by
  induction l with
  | nil => rfl
  | cons c t ih =>
    have hc := h c (List.mem_cons_self ..)
    have := ih (fun x hx => h x (List.mem_cons_of_mem _ hx))
    unfold escL at this ⊢
    rw [List.flatMap_cons, this, hc]
    simp
theorem inB0_ink (c : UInt8) (h : 33 ≤ c.toNat ∧ c.toNat ≤ 126) : inB 0 c = false := by
  unfold inB
  simp [signsF, Lib.indexByte]
  omega
theorem escL0_ink (l : List UInt8) (h : Ink l) : escL 0 l = l := escL_id 0 l fun c hc => inB0_ink c (h c hc)
theorem app_nil (s : ByteArray) : s ++ ⟨#[]⟩ = s := by
  apply ByteArray.ext
  rw [ByteArray.data_append]
  simp
theorem suffix_no (l : List UInt8) (h : Ink l) : Lib.hasSuffix l [32] = false := by
  unfold Lib.hasSuffix
  cases e : List.isSuffixOf [32] l with
  | false => rfl
  | true =>
    have := (List.isSuffixOf_iff_suffix.1 e).subset (List.mem_singleton.2 rfl)
    have := h _ this
    simp at this

theorem opq_parts (sch rest frag : List UInt8) (hasF : Bool) (hF : hasF = false → frag = []) (h1 : SchemeOk sch) (h2 : RestOk rest) (h3 : Ink frag) :
    part1 (opqText sch rest frag hasF) = (sch ++ 58 :: rest, frag, hasF) ∧ part2 (opqText sch rest frag hasF) = (sch ++ 58 :: rest, [], false) ∧ part3 (opqText sch rest frag hasF) = (sch, rest, true) := by
  obtain ⟨a1, a2, a3, a4, a5, a6, a7, a8, a9⟩ := h1
  obtain ⟨b1, b2, b3, b4⟩ := h2
  have hink : Ink (opqText sch rest frag hasF) := by
    unfold opqText
    refine Ink.app (Ink.app a6 ?_) ?_
    · intro c hc
      rcases List.mem_cons.1 hc with rfl | hc
      · decide
      · exact b1 c hc
    · cases hasF
      · intro c hc; cases hc
      · intro c hc
        simp only [if_true] at hc
        rcases List.mem_cons.1 hc with rfl | hc
        · decide
        · exact h3 c hc
  have n35 : 35 ∉ sch ++ 58 :: rest := by
    intro h
    rcases List.mem_append.1 h with h | h
    · exact a8 h
    · rcases List.mem_cons.1 h with h | h
      · revert h; decide
      · exact b2 h
  have n63 : 63 ∉ sch ++ 58 :: rest := by
    intro h
    rcases List.mem_append.1 h with h | h
    · exact a9 h
    · rcases List.mem_cons.1 h with h | h
      · revert h; decide
      · exact b3 h
  have p1 : part1 (opqText sch rest frag hasF) = (sch ++ 58 :: rest, frag, hasF) := by
    unfold part1
    rw [cleanF_ink _ hink]
    unfold opqText
    cases hasF
    · rw [hF rfl]
      simp only [Bool.false_eq_true, if_false, List.append_nil]
      exact cut_none _ _ n35
    · simp only [if_true]
      exact cut_here _ _ _ n35
  have p2 : part2 (opqText sch rest frag hasF) = (sch ++ 58 :: rest, [], false) := by
    unfold part2
    rw [p1]
    exact cut_none _ _ n63
  refine ⟨p1, p2, ?_⟩
  unfold part3
  rw [p2]
  unfold schemeF
  simp only
  rw [cut_here sch rest 58 a7]
  simp only
  have hn : ¬ (true = false ∨ sch = [] ∨ letterB ((sch.getD 0 0).toNat : Int) = false ∨ sch.all schemeByte = false) := by
    rintro (h | h | h | h)
    · cases h
    · exact a1 h
    · rw [a2] at h; cases h
    · rw [a3] at h; cases h
  rw [if_neg hn, a4]

def OpqOk (w : World) (sch rest frag : List UInt8) (hasF : Bool) (e : Ending) (w' : World) : Prop :=
  ∃ pa pn pc, e = .returned (.tuple #[.agg (opqUrl sch rest (escL 1 frag) hasF (.slice pa pn pc)), .int .i64 0]) ∧ Below w.heap.size w w'
theorem parse_opq (sch rest frag : List UInt8) (hasF : Bool) (s : ByteArray) (m : Int) (w : World) (hT : Lib.Utf8Tabs 1 2 w) (hm : w.cell? ⟨0, 0, none⟩ = some (.int .i64 m)) (h0 : 0 < w.heap.size) (hs : s.size ≤ 65536)
    (hst : s.data.toList = opqText sch rest frag hasF) (hF : hasF = false → frag = []) (h1 : SchemeOk sch) (h2 : RestOk rest) (h3 : Ink frag) :
    Calls Tryz.prog 26 #[.string s, .pointer none] w (OpqOk w sch rest frag hasF) := by
  obtain ⟨p1, p2, p3⟩ := opq_parts sch rest frag hasF hF h1 h2 h3
  have sz : s.size = (sch ++ 58 :: rest).length + (if hasF = true then 35 :: frag else []).length := by
    have : s.size = s.data.toList.length := by rw [Array.length_toList]; rfl
    rw [this, hst]
    unfold opqText
    rw [List.length_append]
  have sz2 : (sch ++ 58 :: rest).length = sch.length + (rest.length + 1) := by simp
  have hP : parse0 s.data.toList = { pst0 with sch := bstr sch, hasQ := false, hasF := hasF, rest := bstr rest, q := bstr [], f := bstr frag } := by
    unfold parse0
    rw [hst, p1, p2, p3]
  have zz : ∀ l : List UInt8, (bstr l).size = l.length := fun l => by show l.toArray.size = _; simp
  have hfr : frag.length ≤ 65536 := by
    cases hasF
    · rw [hF rfl]; simp
    · simp only [if_true, List.length_cons] at sz; omega
  have zs : (parse0 s.data.toList).sch = bstr sch := by rw [hP]
  have zr : (parse0 s.data.toList).rest = bstr rest := by rw [hP]
  have zq : (parse0 s.data.toList).q = bstr [] := by rw [hP]
  have zf : (parse0 s.data.toList).f = bstr frag := by rw [hP]
  have zb : (parse0 s.data.toList).bad = false := by rw [hP]; rfl
  have ys : (parse0 s.data.toList).sch.size ≤ maxLen := by rw [zs, zz]; unfold maxLen; omega
  have yr : (parse0 s.data.toList).rest.size ≤ 1073741824 := by rw [zr, zz]; omega
  have yq : (parse0 s.data.toList).q.size ≤ 1073741824 := by rw [zq, zz]; simp
  have yf : (parse0 s.data.toList).f.size ≤ 1073741824 := by rw [zf, zz]; omega
  have yp : specialB (parse0 s.data.toList).sch.data.toList = false := by rw [zs, bstr_list]; exact h1.2.2.2.2.1
  have yh : Lib.hasPrefix (parse0 s.data.toList).rest.data.toList [47] = false := by rw [zr, bstr_list]; exact h2.2.2.2
  have yv : (parse0 s.data.toList).path = .slice none 0 0 := by rw [hP]; rfl
  have hok : (part3 s.data.toList).2.2 = true := by rw [hst, p3]
  generalize hq0 : parse0 s.data.toList = q0 at *
  have hS : Schemed s w q0.opqd [] := by
    intro b w1 hb hle hpa
    rw [hq0] at hpa
    exact (schemed_opq q0 b w1 hpa ys yr yp yh).mono fun e w' ⟨he, hp', hg⟩ => ⟨he, ⟨q0.path, hp', by rw [yv]; exact World.ownsRow_nil _ _ _ _⟩, hg⟩
  refine (parse_ok s m w q0.opqd [] hT hm h0 hs hok zb ys yq yf hS).mono ?_
  · rintro e w' ⟨pv, he, ho, hb⟩
    obtain ⟨pa, pn, pc, rfl⟩ : ∃ a n c, pv = .slice a n c := by
      rcases ho.2 with ⟨hh, _⟩ | ⟨g, cap, cur, hh, _⟩
      · exact ⟨_, _, _, hh⟩
      · exact ⟨_, _, _, hh⟩
    refine ⟨pa, pn, pc, ?_, hb⟩
    rw [he, hP]
    have ht : opqS (false || hasF) (bstr rest) = bstr rest := by
      unfold opqS
      rw [if_neg (by rw [bstr_list, suffix_no rest h2.1]; simp), app_nil]
      unfold escS
      rw [bstr_list, escL0_ink rest h2.1]
      rfl
    have hu : PSt.url (PSt.finish { PSt.opqd { pst0 with sch := bstr sch, hasQ := false, hasF := hasF, rest := bstr rest, q := bstr [], f := bstr frag } with path := .slice pa pn pc }) = opqUrl sch rest (escL 1 frag) hasF (.slice pa pn pc) := by
      simp only [PSt.url, PSt.finish, PSt.opqd, opqUrl, pst0]
      rw [ht]
      have : bstr [] = ⟨#[]⟩ := rfl
      simp [this, escS, bstr]
    rw [hu]
end Go.Proofs.YtibgiohijknmbaaGreatDoor
