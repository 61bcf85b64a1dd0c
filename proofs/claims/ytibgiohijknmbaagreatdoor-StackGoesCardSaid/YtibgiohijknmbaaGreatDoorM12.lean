/-
  Joined texts: Pure, POpq2, Bare.
-/
import Derived.Test.YtibgiohijknmbaaGreatDoorM8
import Derived.StillTailTactics
import Derived.Test.YtibgiohijknmbaaGreatDoorM11
import Derived.Laws.Concat
/-
  Plain lemmas: what Clean and Cut make of texts in printable signs.
-/
namespace Go.Proofs.YtibgiohijknmbaaGreatDoor
open Go.RowKit
set_option linter.unusedVariables false
set_option linter.unusedSimpArgs false

/-- Printable signs, no blanks. -/
def Ink (l : List UInt8) : Prop := ∀ c ∈ l, 33 ≤ c.toNat ∧ c.toNat ≤ 126
theorem Ink.tail {c : UInt8} {l : List UInt8} (h : Ink (c :: l)) : Ink l := fun x hx => h x (List.mem_cons_of_mem _ hx)
theorem Ink.app {a b : List UInt8} (ha : Ink a) (hb : Ink b) : Ink (a ++ b) := fun x hx => by
  rcases List.mem_append.1 hx with h | h
  · exact ha x h
  · exact hb x h
theorem Ink.left {a b : List UInt8} (h : Ink (a ++ b)) : Ink a := fun x hx => h x (List.mem_append_left _ hx)
theorem Ink.right {a b : List UInt8} (h : Ink (a ++ b)) : Ink b := fun x hx => h x (List.mem_append_right _ hx)

theorem decF_ink (l : List UInt8) (h : ∀ c ∈ l, c.toNat < 128) : decF l = l.map fun c => (c.toNat : Int) := by
  induction l with
  | nil => rfl
  | cons c t ih =>
    have hc := h c (List.mem_cons_self ..)
    have e : firstF (c :: t) = ((c.toNat : Int), 1) := by
      unfold firstF
      simp [hc]
    rw [decF_cons _ (by simp), e]
    simp only [List.drop_succ_cons, List.drop_zero, List.map_cons]
    rw [ih (fun x hx => h x (List.mem_cons_of_mem _ hx))]
theorem encF_ink (l : List UInt8) (h : ∀ c ∈ l, c.toNat < 128) : encF (l.map fun c => (c.toNat : Int)) = l := by
  induction l with
  | nil => rfl
  | cons c t ih =>
    have hc := h c (List.mem_cons_self ..)
    have e : runeB (c.toNat : Int) = [c] := by
      unfold runeB Lib.encodeRune
      rw [Lib.encodeRuneZ_one (by omega) (by omega)]
      simp
    have := ih (fun x hx => h x (List.mem_cons_of_mem _ hx))
    simp only [encF, List.map_cons, List.flatMap_cons] at this ⊢
    rw [e, this]
    rfl
theorem utfF_ascii (l : List UInt8) (h : ∀ c ∈ l, c.toNat < 128) : utfF l = l := by
  unfold utfF
  rw [decF_ink l h, encF_ink l h]

theorem trimF_ink (l : List UInt8) (h : Ink l) : Lib.trimF leSpace (bstr l) = bstr l := by
  by_cases h0 : l = []
  · subst h0
    rfl
  · have hlen : 0 < l.length := List.length_pos_iff.2 h0
    have hsz : (bstr l).size = l.length := by show l.toArray.size = _; simp
    have hget : ∀ (k : Nat) (hk : k < (bstr l).size), (bstr l)[k]'hk = l.getD k 0 := fun k hk => by
      rw [List.getD_eq_getElem?_getD, List.getElem?_eq_getElem (by omega)]
      rfl
    have hmem : ∀ k, k < l.length → 33 ≤ (l.getD k 0).toNat ∧ (l.getD k 0).toNat ≤ 126 := fun k hk => by
      rw [List.getD_eq_getElem?_getD, List.getElem?_eq_getElem hk]
      exact h _ (List.getElem_mem hk)
    have h1 : Lib.idxFunc leSpace false (bstr l) = 0 := by
      unfold Lib.idxFunc
      obtain ⟨f, hf⟩ : ∃ f, (bstr l).size = f + 1 := ⟨l.length - 1, by omega⟩
      rw [hf]
      unfold Lib.idxFuncFrom
      have hp : 0 < (bstr l).size := by omega
      have hm := hmem 0 hlen
      rw [if_pos (by omega), decode_ascii _ _ hp (by rw [hget]; omega), hget]
      rw [if_pos (by unfold leSpace; simp only [decide_eq_false_iff_not]; omega)]
      rfl
    have h2 : Lib.trimLeftF leSpace (bstr l) = bstr l := by
      unfold Lib.trimLeftF
      rw [h1]
      simp
    have h3 : Lib.lastIdxFunc leSpace false (bstr l) = ((l.length - 1 : Nat) : Int) := by
      unfold Lib.lastIdxFunc
      obtain ⟨f, hf⟩ : ∃ f, (bstr l).size = f + 1 := ⟨l.length - 1, by omega⟩
      have hm := hmem (l.length - 1) (by omega)
      have e : Lib.decodeLastL ((bstr l).data.toList.take (bstr l).size) = ((l.getD (l.length - 1) 0).toNat, 1) := by
        rw [bstr_list, hsz, List.take_length]
        unfold Lib.decodeLastL
        rw [if_neg h0, if_pos (by omega)]
      rw [hf]
      unfold Lib.lastIdxFuncFrom
      rw [← hf, if_pos (by omega), e]
      simp only
      rw [if_pos (by unfold leSpace; simp only [decide_eq_false_iff_not]; omega), hsz]
    unfold Lib.trimF
    rw [h2]
    unfold Lib.trimRightF Lib.rightEndF
    rw [h3, if_pos (by omega)]
    have hm := hmem (l.length - 1) (by omega)
    have hsz2 : ((bstr l).extract (((l.length - 1 : Nat) : Int)).toNat (bstr l).size).size = 1 := by
      rw [ByteArray.size_extract, hsz]; omega
    have hd : Lib.decodeGoB ((bstr l).extract (((l.length - 1 : Nat) : Int)).toNat (bstr l).size) = ((l.getD (l.length - 1) 0).toNat, 1) := by
      unfold Lib.decodeGoB
      rw [if_neg (by omega)]
      have hp : 0 < ((bstr l).extract (((l.length - 1 : Nat) : Int)).toNat (bstr l).size).size := by omega
      have hg : ((bstr l).extract (((l.length - 1 : Nat) : Int)).toNat (bstr l).size)[0]'hp = l.getD (l.length - 1) 0 := by
        rw [ByteArray.getElem_extract]
        simp only [Int.toNat_natCast, Nat.add_zero]
        exact hget _ _
      rw [decode_ascii _ _ hp (by rw [hg]; omega), hg]
    rw [hd]
    have e2 : (((l.length - 1 : Nat) : Int)).toNat + 1 = (bstr l).size := by omega
    rw [e2]
    simp

theorem repL_id (ps : Pairs) (l : List UInt8) (h : ∀ c ∈ l, c ∉ ps.map (·.1)) : repL ps l = l := by
  induction l with
  | nil => rfl
  | cons c t ih =>
    have hc := look_none ps c (h c (List.mem_cons_self ..))
    have := ih (fun x hx => h x (List.mem_cons_of_mem _ hx))
    unfold repL at this ⊢
    rw [List.flatMap_cons, this]
    simp [rep1, hc]
theorem cleanF_ink (l : List UInt8) (h : Ink l) : cleanF l = l := by
  unfold cleanF
  rw [utfF_ascii l (fun c hc => by have := h c hc; omega)]
  have := trimF_ink l h
  unfold bstr at this
  rw [this]
  refine repL_id tabs l fun c hc hm => ?_
  have := h c hc
  simp only [tabs, List.map_cons, List.map_nil, List.mem_cons, List.not_mem_nil, or_false] at hm
  rcases hm with rfl | rfl | rfl <;> simp at this

theorem indexByte_none (l : List UInt8) (c : UInt8) (h : c ∉ l) : Lib.indexByte l c = -1 := by
  induction l with
  | nil => rfl
  | cons b t ih =>
    have hb : (b == c) = false := by
      rw [beq_eq_false_iff_ne]
      intro e
      exact h (e ▸ List.mem_cons_self ..)
    have := ih (fun hm => h (List.mem_cons_of_mem _ hm))
    simp [Lib.indexByte, hb, this]
theorem indexByte_here (a b : List UInt8) (c : UInt8) (h : c ∉ a) : Lib.indexByte (a ++ c :: b) c = (a.length : Int) := by
  induction a with
  | nil => simp [Lib.indexByte]
  | cons x t ih =>
    have hb : (x == c) = false := by
      rw [beq_eq_false_iff_ne]
      intro e
      exact h (e ▸ List.mem_cons_self ..)
    have := ih (fun hm => h (List.mem_cons_of_mem _ hm))
    simp only [List.cons_append, Lib.indexByte, hb, this]
    have : (((t.length : Int)) == -1) = false := by rw [beq_eq_false_iff_ne]; omega
    simp [this]
theorem cut_none (a : List UInt8) (c : UInt8) (h : c ∉ a) : Lib.cut a [c] = (a, [], false) := by
  unfold Lib.cut
  rw [Lib.index_one, indexByte_none a c h, if_neg (by omega)]
theorem cut_here (a b : List UInt8) (c : UInt8) (h : c ∉ a) : Lib.cut (a ++ c :: b) [c] = (a, b, true) := by
  unfold Lib.cut
  rw [Lib.index_one, indexByte_here a b c h, if_pos (by omega)]
  have e : ((a.length : Int)).toNat = a.length := by omega
  rw [e]
  simp
end Go.Proofs.YtibgiohijknmbaaGreatDoor

/-
  parse.Parse of a text in printable signs whose path is opaque.
-/
namespace Go.Proofs.YtibgiohijknmbaaGreatDoor
open Go.RowKit
set_option linter.unusedVariables false
set_option linter.unusedSimpArgs false

/-- A scheme in small letters that is no special one. -/
def SchemeOk (sch : List UInt8) : Prop := sch ≠ [] ∧ letterB ((sch.getD 0 0).toNat : Int) = true ∧ sch.all schemeByte = true ∧ lowerL sch = sch ∧ specialB sch = false ∧ Ink sch ∧ 58 ∉ sch ∧ 35 ∉ sch ∧ 63 ∉ sch
instance (l : List UInt8) : Decidable (Ink l) := by unfold Ink; infer_instance
instance (sch : List UInt8) : Decidable (SchemeOk sch) := by unfold SchemeOk; infer_instance
/-- What stands behind the colon: printable, no slash ahead, no ? and #. -/
def RestOk (rest : List UInt8) : Prop := Ink rest ∧ 35 ∉ rest ∧ 63 ∉ rest ∧ Lib.hasPrefix rest [47] = false
def opqText (sch rest frag : List UInt8) (hasF : Bool) : List UInt8 := (sch ++ 58 :: rest) ++ if hasF = true then 35 :: frag else []
def opqUrl (sch rest frag : List UInt8) (hasF : Bool) (pv : Value) : Array Value :=
  #[.string (bstr sch), .string ⟨#[]⟩, .string ⟨#[]⟩, .string ⟨#[]⟩, .bool false, .int .i64 (-1), .bool true, .string (bstr rest), pv, .bool false, .bool hasF, .string ⟨#[]⟩, .string (bstr frag)]

theorem escL_id (set : Int) (l : List UInt8) (h : ∀ c ∈ l, inB set c = false) : escL set l = l := by
  induction l with
  | nil => rfl
  | cons c t ih =>
    have hc := h c (List.mem_cons_self ..)
    have := ih (fun x hx => h x (List.mem_cons_of_mem _ hx))
    unfold escL at this ⊢
    rw [List.flatMap_cons, this, hc]
    simp
theorem inB0_ink (c : UInt8) (h : 33 ≤ c.toNat ∧ c.toNat ≤ 126) : inB 0 c = false := by
  unfold inB
  simp [signsF, Lib.indexByte]
  omega
theorem escL0_ink (l : List UInt8) (h : Ink l) : escL 0 l = l := escL_id 0 l fun c hc => inB0_ink c (h c hc)
theorem app_nil (s : ByteArray) : s ++ ⟨#[]⟩ = s := by
  apply ByteArray.ext
  rw [ByteArray.data_append]
  simp
theorem suffix_no (l : List UInt8) (h : Ink l) : Lib.hasSuffix l [32] = false := by
  unfold Lib.hasSuffix
  cases e : List.isSuffixOf [32] l with
  | false => rfl
  | true =>
    have := (List.isSuffixOf_iff_suffix.1 e).subset (List.mem_singleton.2 rfl)
    have := h _ this
    simp at this

theorem opq_parts (sch rest frag : List UInt8) (hasF : Bool) (hF : hasF = false → frag = []) (h1 : SchemeOk sch) (h2 : RestOk rest) (h3 : Ink frag) :
    part1 (opqText sch rest frag hasF) = (sch ++ 58 :: rest, frag, hasF) ∧ part2 (opqText sch rest frag hasF) = (sch ++ 58 :: rest, [], false) ∧ part3 (opqText sch rest frag hasF) = (sch, rest, true) := by
  obtain ⟨a1, a2, a3, a4, a5, a6, a7, a8, a9⟩ := h1
  obtain ⟨b1, b2, b3, b4⟩ := h2
  have hink : Ink (opqText sch rest frag hasF) := by
    unfold opqText
    refine Ink.app (Ink.app a6 ?_) ?_
    · intro c hc
      rcases List.mem_cons.1 hc with rfl | hc
      · decide
      · exact b1 c hc
    · cases hasF
      · intro c hc; cases hc
      · intro c hc
        simp only [if_true] at hc
        rcases List.mem_cons.1 hc with rfl | hc
        · decide
        · exact h3 c hc
  have n35 : 35 ∉ sch ++ 58 :: rest := by
    intro h
    rcases List.mem_append.1 h with h | h
    · exact a8 h
    · rcases List.mem_cons.1 h with h | h
      · revert h; decide
      · exact b2 h
  have n63 : 63 ∉ sch ++ 58 :: rest := by
    intro h
    rcases List.mem_append.1 h with h | h
    · exact a9 h
    · rcases List.mem_cons.1 h with h | h
      · revert h; decide
      · exact b3 h
  have p1 : part1 (opqText sch rest frag hasF) = (sch ++ 58 :: rest, frag, hasF) := by
    unfold part1
    rw [cleanF_ink _ hink]
    unfold opqText
    cases hasF
    · rw [hF rfl]
      simp only [Bool.false_eq_true, if_false, List.append_nil]
      exact cut_none _ _ n35
    · simp only [if_true]
      exact cut_here _ _ _ n35
  have p2 : part2 (opqText sch rest frag hasF) = (sch ++ 58 :: rest, [], false) := by
    unfold part2
    rw [p1]
    exact cut_none _ _ n63
  refine ⟨p1, p2, ?_⟩
  unfold part3
  rw [p2]
  unfold schemeF
  simp only
  rw [cut_here sch rest 58 a7]
  simp only
  have hn : ¬ (true = false ∨ sch = [] ∨ letterB ((sch.getD 0 0).toNat : Int) = false ∨ sch.all schemeByte = false) := by
    rintro (h | h | h | h)
    · cases h
    · exact a1 h
    · rw [a2] at h; cases h
    · rw [a3] at h; cases h
  rw [if_neg hn, a4]

def OpqOk (w : World) (sch rest frag : List UInt8) (hasF : Bool) (e : Ending) (w' : World) : Prop :=
  ∃ pa pn pc, e = .returned (.tuple #[.agg (opqUrl sch rest (escL 1 frag) hasF (.slice pa pn pc)), .int .i64 0]) ∧ Below w.heap.size w w'
theorem parse_opq (sch rest frag : List UInt8) (hasF : Bool) (s : ByteArray) (m : Int) (w : World) (hT : Lib.Utf8Tabs 1 2 w) (hm : w.cell? ⟨0, 0, none⟩ = some (.int .i64 m)) (h0 : 0 < w.heap.size) (hs : s.size ≤ 65536)
    (hst : s.data.toList = opqText sch rest frag hasF) (hF : hasF = false → frag = []) (h1 : SchemeOk sch) (h2 : RestOk rest) (h3 : Ink frag) :
    Calls Tryz.prog 26 #[.string s, .pointer none] w (OpqOk w sch rest frag hasF) := by
  obtain ⟨p1, p2, p3⟩ := opq_parts sch rest frag hasF hF h1 h2 h3
  have sz : s.size = (sch ++ 58 :: rest).length + (if hasF = true then 35 :: frag else []).length := by
    have : s.size = s.data.toList.length := by rw [Array.length_toList]; rfl
    rw [this, hst]
    unfold opqText
    rw [List.length_append]
  have sz2 : (sch ++ 58 :: rest).length = sch.length + (rest.length + 1) := by simp
  have hP : parse0 s.data.toList = { pst0 with sch := bstr sch, hasQ := false, hasF := hasF, rest := bstr rest, q := bstr [], f := bstr frag } := by
    unfold parse0
    rw [hst, p1, p2, p3]
  have zz : ∀ l : List UInt8, (bstr l).size = l.length := fun l => by show l.toArray.size = _; simp
  have hfr : frag.length ≤ 65536 := by
    cases hasF
    · rw [hF rfl]; simp
    · simp only [if_true, List.length_cons] at sz; omega
  have zs : (parse0 s.data.toList).sch = bstr sch := by rw [hP]
  have zr : (parse0 s.data.toList).rest = bstr rest := by rw [hP]
  have zq : (parse0 s.data.toList).q = bstr [] := by rw [hP]
  have zf : (parse0 s.data.toList).f = bstr frag := by rw [hP]
  have zb : (parse0 s.data.toList).bad = false := by rw [hP]; rfl
  have ys : (parse0 s.data.toList).sch.size ≤ maxLen := by rw [zs, zz]; unfold maxLen; omega
  have yr : (parse0 s.data.toList).rest.size ≤ 1073741824 := by rw [zr, zz]; omega
  have yq : (parse0 s.data.toList).q.size ≤ 1073741824 := by rw [zq, zz]; simp
  have yf : (parse0 s.data.toList).f.size ≤ 1073741824 := by rw [zf, zz]; omega
  have yp : specialB (parse0 s.data.toList).sch.data.toList = false := by rw [zs, bstr_list]; exact h1.2.2.2.2.1
  have yh : Lib.hasPrefix (parse0 s.data.toList).rest.data.toList [47] = false := by rw [zr, bstr_list]; exact h2.2.2.2
  have yv : (parse0 s.data.toList).path = .slice none 0 0 := by rw [hP]; rfl
  have hok : (part3 s.data.toList).2.2 = true := by rw [hst, p3]
  generalize hq0 : parse0 s.data.toList = q0 at *
  have hS : Schemed s w q0.opqd [] := by
    intro b w1 hb hle hpa
    rw [hq0] at hpa
    exact (schemed_opq q0 b w1 hpa ys yr yp yh).mono fun e w' ⟨he, hp', hg⟩ => ⟨he, ⟨q0.path, hp', by rw [yv]; exact World.ownsRow_nil _ _ _ _⟩, hg⟩
  refine (parse_ok s m w q0.opqd [] hT hm h0 hs hok zb ys yq yf hS).mono ?_
  · rintro e w' ⟨pv, he, ho, hb⟩
    obtain ⟨pa, pn, pc, rfl⟩ : ∃ a n c, pv = .slice a n c := by
      rcases ho.2 with ⟨hh, _⟩ | ⟨g, cap, cur, hh, _⟩
      · exact ⟨_, _, _, hh⟩
      · exact ⟨_, _, _, hh⟩
    refine ⟨pa, pn, pc, ?_, hb⟩
    rw [he, hP]
    have ht : opqS (false || hasF) (bstr rest) = bstr rest := by
      unfold opqS
      rw [if_neg (by rw [bstr_list, suffix_no rest h2.1]; simp), app_nil]
      unfold escS
      rw [bstr_list, escL0_ink rest h2.1]
      rfl
    have hu : PSt.url (PSt.finish { PSt.opqd { pst0 with sch := bstr sch, hasQ := false, hasF := hasF, rest := bstr rest, q := bstr [], f := bstr frag } with path := .slice pa pn pc }) = opqUrl sch rest (escL 1 frag) hasF (.slice pa pn pc) := by
      simp only [PSt.url, PSt.finish, PSt.opqd, opqUrl, pst0]
      rw [ht]
      have : bstr [] = ⟨#[]⟩ := rfl
      simp [this, escS, bstr]
    rw [hu]
end Go.Proofs.YtibgiohijknmbaaGreatDoor

/-
  url.Bare, url.Print: of URLs whose path is opaque, and of files'.
-/
namespace Go.Proofs.YtibgiohijknmbaaGreatDoor
open Go.RowKit
set_option linter.unusedVariables false
set_option linter.unusedSimpArgs false

/-- A URL in a variable of the call's own. -/
structure UInv (w W : World) (p : PSt) : Prop where
  var : W.heap[w.heap.size]? = some (.cells (PSt.url p) 41 (0, 0))
  bel : Below w.heap.size w W
theorem UInv.lt {w W : World} {p : PSt} (h : UInv w W p) : w.heap.size < W.heap.size := (Array.getElem?_eq_some_iff.1 h.var).1
theorem UInv.below {w W W' : World} {p : PSt} (h : UInv w W p) (k : Below W.heap.size W W') : UInv w W' p := ⟨(k.block _ h.lt).trans h.var, h.bel.trans (k.mono h.bel.size)⟩
theorem UInv.drew {w W : World} {p : PSt} (h : UInv w W p) : UInv w W.drew p := ⟨h.var, h.bel.drew⟩
theorem u_start (w : World) (p : PSt) : UInv w (w.alloc (.cells (PSt.url p) 41)) p := ⟨heap_last _ _, (Below.refl _ _).alloc (Nat.le_refl _) _⟩

def queryS (p : PSt) : List UInt8 := if p.hasQ = true then 63 :: p.query.data.toList else []
/-- What Bare writes of a URL with an opaque path and no host. -/
def bareOpq (p : PSt) : List UInt8 := p.sch.data.toList ++ 58 :: (p.text.data.toList ++ queryS p)
set_option maxRecDepth 100000 in
set_option maxHeartbeats 1000000 in
theorem bare_opq (p : PSt) (pa : Option Addr) (pn pc : Nat) (hp : p.path = .slice pa pn pc) (hh : p.hasHost = false) (ho : p.opq = true) (w : World) (z1 : p.sch.size ≤ 1073741824) (z2 : p.text.size ≤ 1073741824) (z3 : p.query.size ≤ 1073741824) :
    Calls Tryz.prog 37 #[.agg (PSt.url p)] w fun e w' => e = .returned (.string ⟨(bareOpq p).toArray⟩) ∧ Below w.heap.size w w' := by
  have I0 := (u_start w p).var
  have hb0 := (u_start w p).bel
  have hau := fun W => auth_none p pa pn pc hp hh W
  have hpa := fun W => upath_opq p pa pn pc hp ho W
  have hres : bareOpq p = p.sch.data.toList ++ 58 :: (p.text.data.toList ++ queryS p) := rfl
  have hq : queryS p = if p.hasQ = true then 63 :: p.query.data.toList else [] := rfl
  obtain ⟨sch, user, pass, host, hasHost, port, opq, text, path, hasQ, hasF, query, frag, rest, q, f, bad⟩ := p
  simp only at hp hh ho z1 z2 z3 hres hq
  subst hp
  subst hh
  subst ho
  generalize bareOpq _ = res at *
  have HRES := Lib.hid hres
  have HQ := Lib.hid hq
  clear hres hq
  unfold PSt.url at hau hpa hb0 ⊢
  simp only at hau hpa hb0 ⊢
  go_enter Tryz.func37, Tryz.ntmps37
  go_wp2_with fail
  have s1 : sch.size + 1 ≤ 9223372036854775807 := by omega
  have s2 : (sch ++ ⟨#[58]⟩).size ≤ 9223372036854775807 := by rw [ByteArray.size_append]; exact s1
  have s3 : ∀ W, (Op.stringOp .add sch ⟨#[58]⟩).run Tryz.prog W = .ok (.string (sch ++ ⟨#[58]⟩)) W := fun W => run_string_add_sum W sch ⟨#[58]⟩ (by show sch.size + 1 ≤ 9223372036854775807; omega)
  have s5 : ∀ W, (Op.stringOp .add (sch ++ ⟨#[58]⟩) ⟨#[]⟩).run Tryz.prog W = .ok (.string (sch ++ ⟨#[58]⟩ ++ ⟨#[]⟩)) W := fun W => run_string_add_sum W (sch ++ ⟨#[58]⟩) ⟨#[]⟩ (by show _ + 0 ≤ 9223372036854775807; omega)
  unfold PSt.url at I0
  simp only at I0
  generalize w.alloc (.cells #[.string sch, .string user, .string pass, .string host, .bool false, .int .i64 port, .bool true, .string text, .slice pa pn pc, .bool hasQ, .bool hasF, .string query, .string frag] 41) = W0 at *
  have KP : Hid (∀ W, Below W0.heap.size W0 W → W.cell? ⟨w.heap.size, 0, none⟩ = some (.string sch) ∧ W.cell? ⟨w.heap.size, 1, none⟩ = some (.string user) ∧ W.cell? ⟨w.heap.size, 2, none⟩ = some (.string pass) ∧ W.cell? ⟨w.heap.size, 3, none⟩ = some (.string host) ∧ W.cell? ⟨w.heap.size, 4, none⟩ = some (.bool false) ∧ W.cell? ⟨w.heap.size, 5, none⟩ = some (.int .i64 port) ∧ W.cell? ⟨w.heap.size, 6, none⟩ = some (.bool true) ∧ W.cell? ⟨w.heap.size, 7, none⟩ = some (.string text) ∧ W.cell? ⟨w.heap.size, 8, none⟩ = some (.slice pa pn pc) ∧ W.cell? ⟨w.heap.size, 9, none⟩ = some (.bool hasQ) ∧ W.cell? ⟨w.heap.size, 10, none⟩ = some (.bool hasF) ∧ W.cell? ⟨w.heap.size, 11, none⟩ = some (.string query) ∧ W.cell? ⟨w.heap.size, 12, none⟩ = some (.string frag)) := fun W hb => by
    have h := (hb.block _ (Array.getElem?_eq_some_iff.1 I0).1).trans I0
    exact ⟨Lib.cell_of_heap h 0, Lib.cell_of_heap h 1, Lib.cell_of_heap h 2, Lib.cell_of_heap h 3, Lib.cell_of_heap h 4, Lib.cell_of_heap h 5, Lib.cell_of_heap h 6, Lib.cell_of_heap h 7, Lib.cell_of_heap h 8, Lib.cell_of_heap h 9, Lib.cell_of_heap h 10, Lib.cell_of_heap h 11, Lib.cell_of_heap h 12⟩
  obtain ⟨q0, q1, q2, q3, q4, q5, q6, q7, q8, q9, q10, q11, q12⟩ := KP.out W0 (Below.refl _ _)
  go_region_held3 (fun W => W.cell? ⟨w.heap.size, 0, none⟩ = some (.string sch) ∧ W.cell? ⟨w.heap.size, 1, none⟩ = some (.string user) ∧ W.cell? ⟨w.heap.size, 2, none⟩ = some (.string pass) ∧ W.cell? ⟨w.heap.size, 3, none⟩ = some (.string host) ∧ W.cell? ⟨w.heap.size, 4, none⟩ = some (.bool false) ∧ W.cell? ⟨w.heap.size, 5, none⟩ = some (.int .i64 port) ∧ W.cell? ⟨w.heap.size, 6, none⟩ = some (.bool true) ∧ W.cell? ⟨w.heap.size, 7, none⟩ = some (.string text) ∧ W.cell? ⟨w.heap.size, 8, none⟩ = some (.slice pa pn pc) ∧ W.cell? ⟨w.heap.size, 9, none⟩ = some (.bool hasQ) ∧ W.cell? ⟨w.heap.size, 10, none⟩ = some (.bool hasF) ∧ W.cell? ⟨w.heap.size, 11, none⟩ = some (.string query) ∧ W.cell? ⟨w.heap.size, 12, none⟩ = some (.string frag)) (first | go_keep | (exact KP.out _ (un_drew hb1)))
    (first | (go_at_call 73; refine (hau _).mono ?_; rintro e w1 ⟨rfl, hb1⟩))
  have hb1 := un_drew hb1
  obtain ⟨k0, k1, k2, k3, k4, k5, k6, k7, k8, k9, k10, k11, k12⟩ := KP.out w1 hb1
  have hl : w.heap.size < w1.heap.size := by have := (Array.getElem?_eq_some_iff.1 I0).1; have := hb1.size; omega
  clear q0 q1 q2 q3 q4 q5 q6 q7 q8 q9 q10 q11 q12 I0
  clear s3 s5
  have hT1 : (sch ++ ⟨#[58]⟩ ++ ⟨#[]⟩).size = sch.size + 1 := by rw [ByteArray.size_append, ByteArray.size_append]; rfl
  have HFIN : Hid (∀ t : ByteArray, t = (if hasQ = true then (⟨#[63]⟩ : ByteArray) ++ query else ⟨#[]⟩) → (⟨res.toArray⟩ : ByteArray) = sch ++ ⟨#[58]⟩ ++ ⟨#[]⟩ ++ text ++ t) := fun t ht => by
    subst ht
    apply ByteArray.ext
    rw [HRES.out, HQ.out]
    cases hasQ <;> simp [ByteArray.data_append]
  generalize sch ++ ⟨#[58]⟩ ++ ⟨#[]⟩ = T1 at *
  have hT2 : (T1 ++ text).size = T1.size + text.size := by rw [ByteArray.size_append]
  have hTb : T1.size + text.size ≤ 9223372036854775807 := by omega
  have hT3 : ((⟨#[63]⟩ : ByteArray) ++ query).size = 1 + query.size := by rw [ByteArray.size_append]; rfl
  have hTc : 1 + query.size ≤ 9223372036854775807 := by omega
  have hTd : (T1 ++ text).size + ((⟨#[63]⟩ : ByteArray) ++ query).size ≤ 9223372036854775807 := by omega
  have HT := Lib.hid (And.intro hT1 (And.intro hT2 hT3))
  clear hT1 hT2 hT3
  go_wp2_with fail
  refine (hpa _).mono ?_
  rintro e w2 ⟨rfl, hb2⟩
  have hB2 := hb1.trans (hb2.mono hb1.size)
  obtain ⟨j0, j1, j2, j3, j4, j5, j6, j7, j8, j9, j10, j11, j12⟩ := KP.out w2 hB2
  have hBB := hb0.trans (hB2.mono hb0.size)
  have hl2 : w.heap.size < w2.heap.size := by have := hb2.size; omega
  clear k0 k1 k2 k3 k4 k5 k6 k7 k8 k9 k10 k11 k12 hb1 hb2 hB2 hpa hau
  have e1 := fun W => run_string_add_sum (P := Tryz.prog) W T1 text hTb
  have e2 := fun W => run_string_add_sum (P := Tryz.prog) W ⟨#[63]⟩ query (by show 1 + query.size ≤ _; omega)
  have e3 := fun W => run_string_add_sum (P := Tryz.prog) W (T1 ++ text) ((⟨#[63]⟩ : ByteArray) ++ query) hTd
  cases hasQ with
  | true =>
    go_wp2
    go_ret
    exact ⟨ret_s (HFIN.out _ rfl).symm, hBB⟩
  | false =>
    go_wp2
    go_ret
    refine ⟨ret_s ?_, hBB⟩
    rw [HFIN.out _ rfl, if_neg (by decide), app_nil]
end Go.Proofs.YtibgiohijknmbaaGreatDoor
