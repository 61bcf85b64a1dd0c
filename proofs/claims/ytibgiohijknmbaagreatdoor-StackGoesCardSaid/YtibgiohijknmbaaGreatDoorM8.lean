/-
  Joined texts: Parse, Print, Print2.
-/
import Derived.Test.YtibgiohijknmbaaGreatDoorM3
import Derived.Test.YtibgiohijknmbaaGreatDoorM7
import Derived.Test.YtibgiohijknmbaaGreatDoorM2
/-
  parse.Parse without a base, out of what schemed does.
-/
namespace Go.Proofs.YtibgiohijknmbaaGreatDoor
open Go.RowKit
set_option linter.unusedVariables false
set_option linter.unusedSimpArgs false

theorem cleanF_length (l : List UInt8) : (cleanF l).length ≤ 4000 * l.length := by
  unfold cleanF utfF
  have h1 := repL_le tabs (by decide) (Lib.trimF leSpace ⟨(encF (decF l)).toArray⟩).data.toList
  have h2 := trimF_size leSpace ⟨(encF (decF l)).toArray⟩
  have h3 := encF_length (decF l)
  have h4 := decF_length l
  have e1 : (Lib.trimF leSpace ⟨(encF (decF l)).toArray⟩).data.toList.length = (Lib.trimF leSpace ⟨(encF (decF l)).toArray⟩).size := by rw [Array.length_toList]; rfl
  have e2 : (⟨(encF (decF l)).toArray⟩ : ByteArray).size = (encF (decF l)).length := by show (encF (decF l)).toArray.size = _; simp
  omega
theorem cut_le2 (l m : List UInt8) : (Lib.cut l m).2.1.length ≤ l.length := by
  unfold Lib.cut
  split
  · simp only [List.length_drop]; omega
  · simp
theorem schemeF_le (l : List UInt8) : (schemeF l).1.length ≤ l.length ∧ (schemeF l).2.1.length ≤ l.length := by
  unfold schemeF
  split
  · simp
  · have h1 := cut_le l [58]
    have h2 := cut_le2 l [58]
    simp only [lowerL, List.length_map]
    exact ⟨h1, h2⟩

/-- What Parse reads ahead of the scheme's own part. -/
def part1 (s : List UInt8) : List UInt8 × List UInt8 × Bool := Lib.cut (cleanF s) [35]
def part2 (s : List UInt8) : List UInt8 × List UInt8 × Bool := Lib.cut (part1 s).1 [63]
def part3 (s : List UInt8) : List UInt8 × List UInt8 × Bool := schemeF (part2 s).1
def pst0 : PSt := { sch := ⟨#[]⟩, user := ⟨#[]⟩, pass := ⟨#[]⟩, host := ⟨#[]⟩, hasHost := false, port := -1, opq := false, text := ⟨#[]⟩, path := .slice none 0 0, hasQ := false, hasF := false, query := ⟨#[]⟩, frag := ⟨#[]⟩, rest := ⟨#[]⟩, q := ⟨#[]⟩, f := ⟨#[]⟩, bad := false }
def parse0 (s : List UInt8) : PSt :=
  { pst0 with sch := bstr (part3 s).1, hasQ := (part2 s).2.2, hasF := (part1 s).2.2, rest := bstr (part3 s).2.1, q := bstr (part2 s).2.1, f := bstr (part1 s).2.1 }
def PSt.url (p : PSt) : Array Value :=
  #[.string p.sch, .string p.user, .string p.pass, .string p.host, .bool p.hasHost, .int .i64 p.port, .bool p.opq, .string p.text, p.path, .bool p.hasQ, .bool p.hasF, .string p.query, .string p.frag]
def url0 : Array Value := #[.string ⟨#[]⟩, .string ⟨#[]⟩, .string ⟨#[]⟩, .string ⟨#[]⟩, .bool false, .int .i64 0, .bool false, .string ⟨#[]⟩, .slice none 0 0, .bool false, .bool false, .string ⟨#[]⟩, .string ⟨#[]⟩]
def PathOwn (w : World) (B : Nat) (pv : Value) (l : List ByteArray) : Prop := w.ownsRow B 9 1 pv l.length (l.map Value.string)
/-- What schemed does of a text's parser. -/
def Schemed (s : ByteArray) (w : World) (p1 : PSt) (l : List ByteArray) : Prop :=
  ∀ (b : Nat) (w1 : World), Below w.heap.size w w1 → w.heap.size ≤ b → ParserAt w1 b (parse0 s.data.toList) →
    Calls Tryz.prog 57 #[.pointer (some ⟨b, 0, none⟩)] w1 fun e w' => e = .returned (.tuple #[]) ∧ (∃ pv, ParserAt w' b { p1 with path := pv } ∧ PathOwn w' w1.heap.size pv l) ∧ w1.grownBy w' (some b)

theorem bstr_list (l : List UInt8) : (bstr l).data.toList = l := rfl
theorem bstr_fold (l : List UInt8) : (⟨l.toArray⟩ : ByteArray) = bstr l := rfl
theorem list35 : (⟨#[35]⟩ : ByteArray).data.toList = [35] := rfl
theorem list63 : (⟨#[63]⟩ : ByteArray).data.toList = [63] := rfl
theorem part1_fold (s : List UInt8) : Lib.cut (cleanF s) [35] = part1 s := rfl
theorem part2_fold (s : List UInt8) : Lib.cut (part1 s).1 [63] = part2 s := rfl
theorem part3_fold (s : List UInt8) : schemeF (part2 s).1 = part3 s := rfl
theorem own_grown {w w' : World} {B b n : Nat} {e : TypeId} {v : Value} {xs : List Value} (h : w.ownsRow B e 1 v n xs) (hb : b < B) (g : w.grownBy w' (some b)) : w'.ownsRow B e 1 v n xs :=
  h.kept g (by
    rcases h.2 with ⟨rfl, _⟩ | ⟨k, cap, cur, rfl, hk, _⟩
    · exact Or.inl rfl
    · refine Or.inr ?_
      simp [Value.ownBlock]
      omega)
theorem own_base {w : World} {B B' n : Nat} {e : TypeId} {v : Value} {xs : List Value} (h : w.ownsRow B e 1 v n xs) (hB : B' ≤ B) : w.ownsRow B' e 1 v n xs := by
  refine ⟨h.1, ?_⟩
  rcases h.2 with h2 | ⟨g, cap, cur, hv, hg, r⟩
  · exact Or.inl h2
  · exact Or.inr ⟨g, cap, cur, hv, Nat.le_trans hB hg, r⟩
theorem below_set {B : Nat} {a w : World} (h : Below B a w) (b j : Nat) (hb : B ≤ b) (u : Value) : Below B a (w.setCell ⟨b, j, none⟩ u) := h.setCell hb u
/-- The world in the middle of a Parse: the parser, and the result's variable. -/
structure PInv (w W : World) (p : PSt) : Prop where
  par : ParserAt W (w.heap.size + 1) p
  res : W.heap[w.heap.size]? = some (.cells url0 41 (0, 0))
  bel : Below w.heap.size w W
theorem PInv.below {w W W' : World} {p : PSt} (h : PInv w W p) (k : Below W.heap.size W W') : PInv w W' p :=
  ⟨h.par.below k, (k.block _ (by have := h.par.lt; omega)).trans h.res, h.bel.trans (k.mono h.bel.size)⟩
theorem PInv.drewN {w W : World} {p : PSt} (h : PInv w W p) (n : Nat) : PInv w (W.drewN n) p := h.below (below_drewN W n)
theorem PInv.grown {w W W' : World} {p p' : PSt} (h : PInv w W p) (k : W.grownBy W' (some (w.heap.size + 1))) (hp : ParserAt W' (w.heap.size + 1) p') : PInv w W' p' :=
  ⟨hp, (k.block _ (by have := h.par.lt; omega) (by simp)).trans h.res, h.bel.grown k h.bel.size (fun i hi => by injection hi; omega)⟩
theorem PInv.set {w W : World} {p p' : PSt} {j : Nat} {v : Value} (h : PInv w W p) (e : p.cells.setIfInBounds j v = p'.cells) : PInv w (W.setCell ⟨w.heap.size + 1, j, none⟩ v) p' :=
  h.grown (grown_set (grown_below (Below.refl _ _) _) _ _) (h.par.set e)
theorem PInv.max {w W : World} {p : PSt} {m : Int} (h : PInv w W p) (hm : w.cell? ⟨0, 0, none⟩ = some (.int .i64 m)) (h0 : 0 < w.heap.size) : W.cell? ⟨0, 0, none⟩ = some (.int .i64 m) := (h.bel.cell (p := ⟨0, 0, none⟩) h0).trans hm
def parseW0 (w : World) : World := (w.alloc (.cells url0 41)).alloc (.cells pst0.cells 115)
theorem parse_start (w : World) : PInv w (parseW0 w) pst0 := by
  have hs : (w.alloc (.cells url0 41)).heap.size = w.heap.size + 1 := by simp
  refine ⟨?_, ?_, ((Below.refl _ _).alloc (Nat.le_refl _) _).alloc (by simp) _⟩
  · have := heap_last (w.alloc (.cells url0 41)) (.cells pst0.cells 115)
    rw [hs] at this
    exact this
  · show ((w.alloc _).alloc _).heap[_]? = _
    rw [Below.heap_alloc _ _ _ (by omega)]
    exact heap_last _ _

def ParseOk (w : World) (p1 : PSt) (l : List ByteArray) (e : Ending) (w' : World) : Prop :=
  ∃ pv, e = .returned (.tuple #[.agg (PSt.url (PSt.finish { p1 with path := pv })), .int .i64 0]) ∧ PathOwn w' w.heap.size pv l ∧ Below w.heap.size w w'
set_option maxRecDepth 100000 in
set_option maxHeartbeats 400000 in
theorem parse_ok (s : ByteArray) (m : Int) (w : World) (p1 : PSt) (l : List ByteArray) (hT : Lib.Utf8Tabs 1 2 w) (hm : w.cell? ⟨0, 0, none⟩ = some (.int .i64 m)) (h0 : 0 < w.heap.size) (hs : s.size ≤ 65536)
    (hok : (part3 s.data.toList).2.2 = true) (hbad : p1.bad = false) (z1 : p1.sch.size ≤ maxLen) (z2 : p1.q.size ≤ 1073741824) (z3 : p1.f.size ≤ 1073741824) (hS : Schemed s w p1 l) :
    Calls Tryz.prog 26 #[.string s, .pointer none] w (ParseOk w p1 l) := by
  have sz : s.data.toList.length = s.size := by rw [Array.length_toList]; rfl
  have hcl := cleanF_length s.data.toList
  rw [sz] at hcl
  have I0 := parse_start w
  have hT0 := utf8tabs_below hT I0.bel
  -- what is read, under names
  have hp0 : parse0 s.data.toList = { pst0 with sch := bstr (part3 s.data.toList).1, hasQ := (part2 s.data.toList).2.2, hasF := (part1 s.data.toList).2.2, rest := bstr (part3 s.data.toList).2.1, q := bstr (part2 s.data.toList).2.1, f := bstr (part1 s.data.toList).2.1 } := rfl
  have hClean := clean_c s (parseW0 w) hT0 (by omega)
  have hCut1 := fun (W : World) (h : W.cell? ⟨0, 0, none⟩ = some (.int .i64 m)) => Tryz.strings_Cut (bstr (cleanF s.data.toList)) ⟨#[35]⟩ m W (by show (cleanF s.data.toList).toArray.size < _; rw [List.size_toArray]; omega) h
  have k1 := cut_le (cleanF s.data.toList) [35]
  have k2 := cut_le2 (cleanF s.data.toList) [35]
  have hCut2 := fun (W : World) (h : W.cell? ⟨0, 0, none⟩ = some (.int .i64 m)) => Tryz.strings_Cut (bstr (part1 s.data.toList).1) ⟨#[63]⟩ m W (by show (part1 s.data.toList).1.toArray.size < _; rw [List.size_toArray]; unfold part1; omega) h
  have k3 := cut_le (part1 s.data.toList).1 [63]
  have hSch := fun (W : World) (h : W.cell? ⟨0, 0, none⟩ = some (.int .i64 m)) => scheme_c (bstr (part2 s.data.toList).1) m W h (by show (part2 s.data.toList).1.toArray.size ≤ _; rw [List.size_toArray]; unfold part2; unfold part1 at *; omega)
  clear k1 k2 k3 hcl sz hT0
  simp only [bstr_list, list35, part1_fold] at hCut1
  simp only [bstr_list, list63, part2_fold] at hCut2
  simp only [bstr_list, part3_fold] at hSch
  simp only [bstr_fold] at hClean hCut1 hCut2 hSch
  rw [hok] at hSch
  unfold Schemed at hS
  rw [hp0] at hS
  generalize (part3 s.data.toList).2.2 = ok3 at *
  generalize bstr (part3 s.data.toList).1 = name at *
  generalize bstr (part3 s.data.toList).2.1 = rest at *
  generalize (part2 s.data.toList).2.2 = hasQ at *
  generalize bstr (part2 s.data.toList).2.1 = qq at *
  generalize bstr (part2 s.data.toList).1 = s2 at *
  generalize (part1 s.data.toList).2.2 = hasF at *
  generalize bstr (part1 s.data.toList).2.1 = ff at *
  generalize bstr (part1 s.data.toList).1 = s1 at *
  generalize bstr (cleanF s.data.toList) = c0 at *
  have hs1 : ¬ 65536 < (s.size : Int) := by omega
  have hs2 : decide (65536 < (s.size : Int)) = false := by rw [decide_eq_false_iff_not]; exact hs1
  have HBAD := Lib.hid hbad
  have HSC := Lib.hid hS
  have HM := Lib.hid hm
  have HC1 := Lib.hid hCut1
  have HC2 := Lib.hid hCut2
  have HS3 := Lib.hid hSch
  clear hok hbad hS hT hs hp0 hm hCut1 hCut2 hSch
  go_enter Tryz.func26, Tryz.ntmps26
  go_wp2_with fail
  change Calls _ _ _ (parseW0 w) _
  generalize parseW0 w = W0 at *
  refine hClean.mono ?_
  rintro e w1 ⟨rfl, hb1⟩
  have I1 := I0.below hb1
  have hB1 := I1.par.lt
  have f1 := fun j => I1.par.free j
  have c16 : w1.cell? ⟨w.heap.size + 1, 16, none⟩ = some (.string ⟨#[]⟩) := I1.par.cell 16
  have c10 : w1.cell? ⟨w.heap.size + 1, 10, none⟩ = some (.bool false) := I1.par.cell 10
  clear hClean I0 hb1
  go_wp2_with fail
  refine (HC1.out _ (I1.max HM.out h0)).mono ?_
  rintro e w' ⟨rfl, n1, rfl⟩
  go_wp2_with fail
  have I2 : PInv w (((w1.drewN n1).setCell ⟨w.heap.size + 1, 16, none⟩ (.string ff)).setCell ⟨w.heap.size + 1, 10, none⟩ (.bool hasF)) { pst0 with f := ff, hasF := hasF } :=
    ((I1.drewN n1).set (p' := { pst0 with f := ff }) rfl).set rfl
  generalize ((w1.drewN n1).setCell ⟨w.heap.size + 1, 16, none⟩ (.string ff)).setCell ⟨w.heap.size + 1, 10, none⟩ (.bool hasF) = W2 at *
  clear c16 c10 f1 hB1 I1
  have hB2 := I2.par.lt
  have f2 := fun j => I2.par.free j
  have c15 : W2.cell? ⟨w.heap.size + 1, 15, none⟩ = some (.string ⟨#[]⟩) := I2.par.cell 15
  have c9 : W2.cell? ⟨w.heap.size + 1, 9, none⟩ = some (.bool false) := I2.par.cell 9
  refine (HC2.out _ (I2.max HM.out h0)).mono ?_
  rintro e w' ⟨rfl, n2, rfl⟩
  go_wp2_with fail
  have I3 : PInv w (((W2.drewN n2).setCell ⟨w.heap.size + 1, 15, none⟩ (.string qq)).setCell ⟨w.heap.size + 1, 9, none⟩ (.bool hasQ)) { pst0 with f := ff, hasF := hasF, q := qq, hasQ := hasQ } :=
    ((I2.drewN n2).set (p' := { pst0 with f := ff, hasF := hasF, q := qq }) rfl).set rfl
  generalize ((W2.drewN n2).setCell ⟨w.heap.size + 1, 15, none⟩ (.string qq)).setCell ⟨w.heap.size + 1, 9, none⟩ (.bool hasQ) = W3 at *
  clear c15 c9 f2 hB2 I2
  refine (HS3.out _ (I3.max HM.out h0)).mono ?_
  rintro e w4 ⟨rfl, hb4⟩
  have I4 := I3.below hb4
  have hB4 := I4.par.lt
  have f4 := fun j => I4.par.free j
  have c0 : w4.cell? ⟨w.heap.size + 1, 0, none⟩ = some (.string ⟨#[]⟩) := I4.par.cell 0
  have c14 : w4.cell? ⟨w.heap.size + 1, 14, none⟩ = some (.string ⟨#[]⟩) := I4.par.cell 14
  clear I3 hb4
  go_wp2_with fail
  have I5 : PInv w ((w4.setCell ⟨w.heap.size + 1, 0, none⟩ (.string name)).setCell ⟨w.heap.size + 1, 14, none⟩ (.string rest)) { pst0 with sch := name, hasQ := hasQ, hasF := hasF, rest := rest, q := qq, f := ff } :=
    (I4.set (p' := { pst0 with f := ff, hasF := hasF, q := qq, hasQ := hasQ, sch := name }) rfl).set rfl
  generalize (w4.setCell ⟨w.heap.size + 1, 0, none⟩ (.string name)).setCell ⟨w.heap.size + 1, 14, none⟩ (.string rest) = W5 at *
  clear c0 c14 f4 hB4 I4
  refine (HSC.out _ _ I5.bel (Nat.le_succ _) I5.par).mono ?_
  rintro e w6 ⟨rfl, ⟨pv, hP6, hO6⟩, hG6⟩
  have I6 := I5.grown hG6 hP6
  have c17 : w6.cell? ⟨w.heap.size + 1, 17, none⟩ = some (.bool p1.bad) := I6.par.cell 17
  rw [HBAD.out] at c17
  have hO6 := own_grown (b := w.heap.size + 1) hO6 I5.par.lt (grown_below (Below.refl w6.heap.size w6) _)
  have hl5 := I5.par.lt
  clear I5 hG6 hP6
  go_wp2_with fail
  refine (finish_c { p1 with path := pv } _ _ I6.par z1 z2 z3).mono ?_
  rintro e w7 ⟨rfl, hP7, hG7⟩
  have I7 := I6.grown hG7 hP7
  have hO7 := own_grown (b := w.heap.size + 1) hO6 hl5 hG7
  clear hO6 I6 hG7 hP7 c17
  obtain ⟨pa, pn, pc, hpv⟩ : ∃ a n c, pv = .slice a n c := by
    rcases hO7.2 with ⟨hh, _⟩ | ⟨g, cap, cur, hh, _⟩
    · exact ⟨_, _, _, hh⟩
    · exact ⟨_, _, _, hh⟩
  have hpp : (PSt.finish { p1 with path := pv }).path = .slice pa pn pc := hpv
  generalize hpf : PSt.finish { p1 with path := pv } = pf at *
  have hfin : (#[.string pf.sch, .string pf.user, .string pf.pass, .string pf.host, .bool pf.hasHost, .int .i64 pf.port, .bool pf.opq, .string pf.text, .slice pa pn pc, .bool pf.hasQ, .bool pf.hasF, .string pf.query, .string pf.frag] : Array Value) = PSt.url (PSt.finish { p1 with path := pv }) := by
    rw [hpf, ← hpp]
    rfl
  have HFIN := Lib.hid hfin
  clear hpf hpv hfin
  have k0 : w7.cell? ⟨w.heap.size + 1, 0, none⟩ = some (.string pf.sch) := I7.par.cell 0
  have k1 : w7.cell? ⟨w.heap.size + 1, 1, none⟩ = some (.string pf.user) := I7.par.cell 1
  have k2 : w7.cell? ⟨w.heap.size + 1, 2, none⟩ = some (.string pf.pass) := I7.par.cell 2
  have k3 : w7.cell? ⟨w.heap.size + 1, 3, none⟩ = some (.string pf.host) := I7.par.cell 3
  have k4 : w7.cell? ⟨w.heap.size + 1, 4, none⟩ = some (.bool pf.hasHost) := I7.par.cell 4
  have k5 : w7.cell? ⟨w.heap.size + 1, 5, none⟩ = some (.int .i64 pf.port) := I7.par.cell 5
  have k6 : w7.cell? ⟨w.heap.size + 1, 6, none⟩ = some (.bool pf.opq) := I7.par.cell 6
  have k7 : w7.cell? ⟨w.heap.size + 1, 7, none⟩ = some (.string pf.text) := I7.par.cell 7
  have k8 : w7.cell? ⟨w.heap.size + 1, 8, none⟩ = some pf.path := I7.par.cell 8
  rw [hpp] at k8
  clear hpp
  have k9 : w7.cell? ⟨w.heap.size + 1, 9, none⟩ = some (.bool pf.hasQ) := I7.par.cell 9
  have k10 : w7.cell? ⟨w.heap.size + 1, 10, none⟩ = some (.bool pf.hasF) := I7.par.cell 10
  have k11 : w7.cell? ⟨w.heap.size + 1, 11, none⟩ = some (.string pf.query) := I7.par.cell 11
  have k12 : w7.cell? ⟨w.heap.size + 1, 12, none⟩ = some (.string pf.frag) := I7.par.cell 12
  have r0 : w7.cell? ⟨w.heap.size, 0, none⟩ = some (.string ⟨#[]⟩) := Lib.cell_of_heap I7.res 0
  have r1 : w7.cell? ⟨w.heap.size, 1, none⟩ = some (.string ⟨#[]⟩) := Lib.cell_of_heap I7.res 1
  have r2 : w7.cell? ⟨w.heap.size, 2, none⟩ = some (.string ⟨#[]⟩) := Lib.cell_of_heap I7.res 2
  have r3 : w7.cell? ⟨w.heap.size, 3, none⟩ = some (.string ⟨#[]⟩) := Lib.cell_of_heap I7.res 3
  have r4 : w7.cell? ⟨w.heap.size, 4, none⟩ = some (.bool false) := Lib.cell_of_heap I7.res 4
  have r5 : w7.cell? ⟨w.heap.size, 5, none⟩ = some (.int .i64 0) := Lib.cell_of_heap I7.res 5
  have r6 : w7.cell? ⟨w.heap.size, 6, none⟩ = some (.bool false) := Lib.cell_of_heap I7.res 6
  have r7 : w7.cell? ⟨w.heap.size, 7, none⟩ = some (.string ⟨#[]⟩) := Lib.cell_of_heap I7.res 7
  have r8 : w7.cell? ⟨w.heap.size, 8, none⟩ = some (.slice none 0 0) := Lib.cell_of_heap I7.res 8
  have r9 : w7.cell? ⟨w.heap.size, 9, none⟩ = some (.bool false) := Lib.cell_of_heap I7.res 9
  have r10 : w7.cell? ⟨w.heap.size, 10, none⟩ = some (.bool false) := Lib.cell_of_heap I7.res 10
  have r11 : w7.cell? ⟨w.heap.size, 11, none⟩ = some (.string ⟨#[]⟩) := Lib.cell_of_heap I7.res 11
  have r12 : w7.cell? ⟨w.heap.size, 12, none⟩ = some (.string ⟨#[]⟩) := Lib.cell_of_heap I7.res 12
  have rz := fun j => frozen_of_row w7 w.heap.size j _ _ I7.res
  go_wp2_with fail
  refine bodyPost_ret (v := .tuple #[.agg #[.string pf.sch, .string pf.user, .string pf.pass, .string pf.host, .bool pf.hasHost, .int .i64 pf.port, .bool pf.opq, .string pf.text, .slice pa pn pc, .bool pf.hasQ, .bool pf.hasF, .string pf.query, .string pf.frag], .int .i64 0]) (by simp [results, Tryz.results26, go_sem, r0, r1, r2, r3, r4, r5, r6, r7, r8, r9, r10, r11, r12]) rfl ?_
  refine ⟨pv, congrArg (fun u => Ending.returned (.tuple #[.agg u, .int .i64 0])) HFIN.out, ?_, ?_⟩
  · refine own_base (own_grown (b := w.heap.size) hO7 (by omega) ?_) (by omega)
    iterate 13 refine grown_set ?_ _ _
    exact grown_below (Below.refl _ _) _
  · iterate 13 refine below_set ?_ _ _ (Nat.le_refl _) _
    exact I7.bel
end Go.Proofs.YtibgiohijknmbaaGreatDoor

/-
  url.authority, url.Path: of URLs without a host, and of files'.
-/
namespace Go.Proofs.YtibgiohijknmbaaGreatDoor
open Go.RowKit
set_option linter.unusedVariables false
set_option linter.unusedSimpArgs false

set_option maxRecDepth 100000 in
theorem auth_none (p : PSt) (pa : Option Addr) (pn pc : Nat) (hp : p.path = .slice pa pn pc) (hh : p.hasHost = false) (w : World) :
    Calls Tryz.prog 73 #[.agg (PSt.url p)] w fun e w' => e = .returned (.string ⟨#[]⟩) ∧ Below w.heap.size w w' := by
  obtain ⟨sch, user, pass, host, hasHost, port, opq, text, path, hasQ, hasF, query, frag, rest, q, f, bad⟩ := p
  simp only at hp hh
  subst hp
  subst hh
  unfold PSt.url
  simp only
  have hb0 : Below w.heap.size w (w.alloc (.cells #[.string sch, .string user, .string pass, .string host, .bool false, .int .i64 port, .bool opq, .string text, .slice pa pn pc, .bool hasQ, .bool hasF, .string query, .string frag] 41)) := (Below.refl _ _).alloc (Nat.le_refl _) _
  go_enter Tryz.func73, Tryz.ntmps73
  go_wp2
  go_ret
  exact ⟨rfl, hb0⟩

theorem builder_fresh (w : World) : Lib.IsBuilder 191 5 w.heap.size w.heap.size (Lib.byteCells []) (w.alloc (.cells #[.pointer none, .slice none 0 0] 191)) :=
  .inl ⟨Nat.le_refl _, .slice none 0 0, heap_last _ _, ⟨rfl, .inl ⟨rfl, rfl⟩⟩, by simp [Value.ownBlock]⟩
theorem strCells_eq (s : ByteArray) : Lib.strCells s = Lib.byteCells s.data.toList := rfl
def slash2 : ByteArray := ⟨#[47, 47]⟩
set_option maxRecDepth 100000 in
set_option maxHeartbeats 1000000 in
theorem auth_file (p : PSt) (pa : Option Addr) (pn pc : Nat) (hp : p.path = .slice pa pn pc) (hh : p.hasHost = true) (hu : p.user = ⟨#[]⟩) (hw : p.pass = ⟨#[]⟩) (hport : p.port = -1) (hz : p.host.size ≤ 1073741824) (w : World) :
    Calls Tryz.prog 73 #[.agg (PSt.url p)] w fun e w' => e = .returned (.string ⟨(47 :: 47 :: p.host.data.toList).toArray⟩) ∧ Below w.heap.size w w' := by
  obtain ⟨sch, user, pass, host, hasHost, port, opq, text, path, hasQ, hasF, query, frag, rest, q, f, bad⟩ := p
  simp only at hp hh hu hw hport hz ⊢
  subst hp
  subst hh
  subst hu
  subst hw
  subst hport
  unfold PSt.url
  simp only
  have hb0 : Below w.heap.size w (w.alloc (.cells #[.string sch, .string ⟨#[]⟩, .string ⟨#[]⟩, .string host, .bool true, .int .i64 (-1), .bool opq, .string text, .slice pa pn pc, .bool hasQ, .bool hasF, .string query, .string frag] 41)) := (Below.refl _ _).alloc (Nat.le_refl _) _
  have hu0 := heap_last w (.cells #[.string sch, .string ⟨#[]⟩, .string ⟨#[]⟩, .string host, .bool true, .int .i64 (-1), .bool opq, .string text, .slice pa pn pc, .bool hasQ, .bool hasF, .string query, .string frag] 41)
  have hz0 : (w.alloc (.cells #[.string sch, .string ⟨#[]⟩, .string ⟨#[]⟩, .string host, .bool true, .int .i64 (-1), .bool opq, .string text, .slice pa pn pc, .bool hasQ, .bool hasF, .string query, .string frag] 41)).heap.size = w.heap.size + 1 := by simp
  have hbu := builder_fresh (w.alloc (.cells #[.string sch, .string ⟨#[]⟩, .string ⟨#[]⟩, .string host, .bool true, .int .i64 (-1), .bool opq, .string text, .slice pa pn pc, .bool hasQ, .bool hasF, .string query, .string frag] 41))
  go_enter Tryz.func73, Tryz.ntmps73
  go_wp2_with fail
  generalize w.alloc (.cells #[.string sch, .string ⟨#[]⟩, .string ⟨#[]⟩, .string host, .bool true, .int .i64 (-1), .bool opq, .string text, .slice pa pn pc, .bool hasQ, .bool hasF, .string query, .string frag] 41) = W0 at *
  rw [hz0] at hbu
  have hA : Below (w.heap.size + 1) W0 (W0.alloc (.cells #[.pointer none, .slice none 0 0] 191)) := (Below.refl _ _).alloc (by omega) _
  have hzA : w.heap.size + 1 ≤ (W0.alloc (.cells #[.pointer none, .slice none 0 0] 191)).heap.size := by simp; omega
  have hsl := fun s hs => wstring_c (w.heap.size + 1) (w.heap.size + 1) (Lib.byteCells []) s _ hbu hs hzA
  refine (hsl _ ?_).mono ?_
  · show 0 + 2 ≤ 140737488355328
    omega
  rintro e w1 ⟨rfl, hB1, hb1⟩
  have hC1 := hA.trans hb1
  have e47 : Lib.byteCells [] ++ Lib.strCells (⟨#[47, 47]⟩ ++ ⟨#[]⟩) = Lib.byteCells [47, 47] := rfl
  rw [e47] at hB1
  have d2 : w1.cell? ⟨w.heap.size, 2, none⟩ = some (.string ⟨#[]⟩) := (hC1.cell (p := ⟨w.heap.size, 2, none⟩) (Nat.lt_succ_self _)).trans (Lib.cell_of_heap hu0 2)
  have d1 : w1.cell? ⟨w.heap.size, 1, none⟩ = some (.string ⟨#[]⟩) := (hC1.cell (p := ⟨w.heap.size, 1, none⟩) (Nat.lt_succ_self _)).trans (Lib.cell_of_heap hu0 1)
  have d3 : w1.cell? ⟨w.heap.size, 3, none⟩ = some (.string host) := (hC1.cell (p := ⟨w.heap.size, 3, none⟩) (Nat.lt_succ_self _)).trans (Lib.cell_of_heap hu0 3)
  have HB1 := Lib.hid hB1
  have HU := Lib.hid hu0
  have hz1 : w.heap.size + 1 ≤ w1.heap.size := Nat.le_trans hzA hb1.size
  have hl1 : w.heap.size < w1.heap.size := by omega
  clear hsl hbu hB1 hb1 hu0 e47 hzA
  go_wp2_with fail
  refine (wstring_c (w.heap.size + 1) (w.heap.size + 1) (Lib.byteCells [47, 47]) host _ (.inr HB1.out) (by rw [Lib.byteCells_length]; simp; omega) hz1).mono ?_
  rintro e w2 ⟨rfl, hB2, hb2⟩
  have hC2 := hC1.trans hb2
  have d5 : w2.cell? ⟨w.heap.size, 5, none⟩ = some (.int .i64 (-1)) := (hC2.cell (p := ⟨w.heap.size, 5, none⟩) (Nat.lt_succ_self _)).trans (Lib.cell_of_heap HU.out 5)
  rw [strCells_eq, ← byteCells_append] at hB2
  have HB2 := Lib.hid hB2
  have hz2 : w.heap.size + 1 ≤ w2.heap.size := Nat.le_trans hz1 hb2.size
  clear hB2 hb2 hC1 d1 d2 d3
  go_wp2_with fail
  refine (Tryz.Builder_String_any (w.heap.size + 1) (w.heap.size + 1) _ _ (.inr HB2.out) hz2).mono ?_
  rintro e w3 ⟨rfl, hb3⟩
  have hC3 := hb0.trans ((hC2.trans hb3).mono (Nat.le_succ _))
  go_wp2
  go_ret
  exact ⟨rfl, hC3⟩
end Go.Proofs.YtibgiohijknmbaaGreatDoor

/-
  url.Path, url.Bare, url.Print: of URLs whose path is opaque, and of files'.
-/
namespace Go.Proofs.YtibgiohijknmbaaGreatDoor
open Go.RowKit
set_option linter.unusedVariables false
set_option linter.unusedSimpArgs false

/-- A list of strings that can be read. -/
def PathRd (w : World) (a : Option Addr) (cap : Nat) (l : List ByteArray) : Prop :=
  l.length ≤ cap ∧ (0 < l.length → ∃ g, a = some ⟨g, 0, none⟩ ∧ g < w.heap.size ∧ ∀ j, j < l.length → w.cell? ⟨g, j, none⟩ = some (.string (l.getD j ByteArray.empty)))
theorem PathRd.below {w w' : World} {a : Option Addr} {cap : Nat} {l : List ByteArray} (h : PathRd w a cap l) (hb : Below w.heap.size w w') : PathRd w' a cap l :=
  ⟨h.1, fun h0 => by
    obtain ⟨g, e, hg, hc⟩ := h.2 h0
    exact ⟨g, e, Nat.lt_of_lt_of_le hg hb.size, fun j hj => (hb.cell (p := ⟨g, j, none⟩) hg).trans (hc j hj)⟩⟩
theorem PathOwn.rd {w : World} {B : Nat} {pv : Value} {l : List ByteArray} (h : PathOwn w B pv l) : ∃ a cap, pv = .slice a l.length cap ∧ PathRd w a cap l := by
  rcases h.2 with ⟨hv, h0⟩ | ⟨g, cap, cur, hv, hg, hh, hn, hm, hs, ht⟩
  · exact ⟨none, 0, by rw [hv, h0], by omega, fun h => by omega⟩
  · refine ⟨some ⟨g, 0, none⟩, cap, hv, hn, fun _ => ⟨g, rfl, (Array.getElem?_eq_some_iff.1 hh).1, fun j hj => ?_⟩⟩
    have := h.cells (g := g) (by rw [hv]; rfl) j (.string (l.getD j ByteArray.empty)) (by simp [List.getD_eq_getElem?_getD, List.getElem?_eq_getElem hj])
    rw [addr_add0] at this
    exact this
def pathB (l : List ByteArray) : List UInt8 := l.flatMap fun s => 47 :: s.data.toList
theorem pathB_snoc (l : List ByteArray) (s : ByteArray) : pathB (l ++ [s]) = pathB l ++ 47 :: s.data.toList := by simp [pathB]
theorem pathB_take (l : List ByteArray) (k : Nat) (hk : k < l.length) : (pathB (l.take k)).length + 1 + (l.getD k ByteArray.empty).size ≤ (pathB l).length := by
  have e : l = l.take k ++ (l.getD k ByteArray.empty) :: l.drop (k + 1) := by
    rw [List.getD_eq_getElem?_getD, List.getElem?_eq_getElem hk]
    simp
  have : pathB l = pathB (l.take k) ++ (47 :: (l.getD k ByteArray.empty).data.toList) ++ pathB (l.drop (k + 1)) := by
    conv => lhs; rw [e]
    simp [pathB]
  have e2 : (l.getD k ByteArray.empty).data.toList.length = (l.getD k ByteArray.empty).size := by rw [Array.length_toList]; rfl
  rw [this, List.length_append, List.length_append, List.length_cons]
  omega

set_option maxRecDepth 100000 in
set_option maxHeartbeats 1000000 in
theorem upath_opq (p : PSt) (pa : Option Addr) (pn pc : Nat) (hp : p.path = .slice pa pn pc) (hh : p.opq = true) (w : World) :
    Calls Tryz.prog 74 #[.agg (PSt.url p)] w fun e w' => e = .returned (.string p.text) ∧ Below w.heap.size w w' := by
  obtain ⟨sch, user, pass, host, hasHost, port, opq, text, path, hasQ, hasF, query, frag, rest, q, f, bad⟩ := p
  simp only at hp hh
  subst hp
  subst hh
  unfold PSt.url
  simp only
  have hb0 : Below w.heap.size w (w.alloc (.cells #[.string sch, .string user, .string pass, .string host, .bool hasHost, .int .i64 port, .bool true, .string text, .slice pa pn pc, .bool hasQ, .bool hasF, .string query, .string frag] 41)) := (Below.refl _ _).alloc (Nat.le_refl _) _
  go_enter Tryz.func74, Tryz.ntmps74
  go_wp2
  go_ret
  exact ⟨rfl, hb0⟩

set_option maxRecDepth 100000 in
set_option maxHeartbeats 1000000 in
theorem upath_c (p : PSt) (pa : Option Addr) (pc : Nat) (l : List ByteArray) (hp : p.path = .slice pa l.length pc) (hh : p.opq = false) (w : World) (hr : PathRd w pa pc l) (hz : (pathB l).length ≤ 1073741824) :
    Calls Tryz.prog 74 #[.agg (PSt.url p)] w fun e w' => e = .returned (.string ⟨(pathB l).toArray⟩) ∧ Below w.heap.size w w' := by
  obtain ⟨sch, user, pass, host, hasHost, port, opq, text, path, hasQ, hasF, query, frag, rest, q, f, bad⟩ := p
  simp only at hp hh
  subst hp
  subst hh
  unfold PSt.url
  simp only
  have hlen : l.length ≤ (pathB l).length := by
    clear hr hz
    induction l with
    | nil => simp
    | cons a t ih => simp [pathB] at *; omega
  have hb0 : Below w.heap.size w (w.alloc (.cells #[.string sch, .string user, .string pass, .string host, .bool hasHost, .int .i64 port, .bool false, .string text, .slice pa l.length pc, .bool hasQ, .bool hasF, .string query, .string frag] 41)) := (Below.refl _ _).alloc (Nat.le_refl _) _
  have hz0 : (w.alloc (.cells #[.string sch, .string user, .string pass, .string host, .bool hasHost, .int .i64 port, .bool false, .string text, .slice pa l.length pc, .bool hasQ, .bool hasF, .string query, .string frag] 41)).heap.size = w.heap.size + 1 := by simp
  have hbu := builder_fresh (w.alloc (.cells #[.string sch, .string user, .string pass, .string host, .bool hasHost, .int .i64 port, .bool false, .string text, .slice pa l.length pc, .bool hasQ, .bool hasF, .string query, .string frag] 41))
  go_enter Tryz.func74, Tryz.ntmps74
  go_wp2_with fail
  generalize w.alloc (.cells #[.string sch, .string user, .string pass, .string host, .bool hasHost, .int .i64 port, .bool false, .string text, .slice pa l.length pc, .bool hasQ, .bool hasF, .string query, .string frag] 41) = W0 at *
  rw [hz0] at hbu
  have hA : Below (w.heap.size + 1) W0 (W0.alloc (.cells #[.pointer none, .slice none 0 0] 191)) := (Below.refl _ _).alloc (by omega) _
  have hzA : w.heap.size + 1 ≤ (W0.alloc (.cells #[.pointer none, .slice none 0 0] 191)).heap.size := by simp; omega
  generalize W0.alloc (.cells #[.pointer none, .slice none 0 0] 191) = W1 at *
  have HR := Lib.hid (hr.below hb0)
  have HBU := Lib.hid hbu
  clear hbu hr
  go_loopw [13] (fun i wr => ∃ k : Nat, k ≤ l.length ∧ i = .int .i64 k ∧ Lib.IsBuilder 191 5 (w.heap.size + 1) (w.heap.size + 1) (Lib.byteCells (pathB (l.take k))) wr ∧ Below (w.heap.size + 1) W0 wr) (fun i _ => l.length - (intOf i).toNat)
  case atStart => exact ⟨0, Nat.zero_le _, rfl, HBU.out, hA⟩
  case round =>
    obtain ⟨k, hk, rfl, hB, hb⟩ := hrel
    have hzr : w.heap.size + 1 ≤ wr.heap.size := by have := hb.size; omega
    by_cases hlt : k < l.length
    · obtain ⟨g, rfl, hgl, hc⟩ := HR.out.2 (by omega)
      have hcap := HR.out.1
      have hgw : g < w.heap.size + 1 := by omega
      have d0 : wr.cell? ⟨g, k, none⟩ = some (.string (l.getD k ByteArray.empty)) := (hb.cell (p := ⟨g, k, none⟩) hgw).trans (hc k hlt)
      have hpt := pathB_take l k hlt
      have hsn : pathB (l.take (k + 1)) = pathB (l.take k) ++ 47 :: (l.getD k ByteArray.empty).data.toList := by
        rw [List.take_succ_eq_append_getElem hlt, pathB_snoc, List.getD_eq_getElem?_getD, List.getElem?_eq_getElem hlt]
        rfl
      have HSN := Lib.hid hsn
      clear hsn hc
      generalize pathB (l.take k) = done at *
      obtain ⟨x, hx⟩ : ∃ x, x = l.getD k ByteArray.empty := ⟨_, rfl⟩
      rw [← hx] at d0 hpt
      have HX := Lib.hid hx
      clear hx
      have hxs : x.size + 1 ≤ 9223372036854775807 := by omega
      have hlt' : (k : Int) < (l.length : Int) := by omega
      have hsl := fun s hs => wstring_c (w.heap.size + 1) (w.heap.size + 1) (Lib.byteCells done) s wr hB hs hzr
      go_wp2_with fail
      refine (hsl _ ?_).mono ?_
      · rw [Lib.byteCells_length]
        show done.length + ((⟨#[47]⟩ : ByteArray) ++ x).size ≤ _
        rw [ByteArray.size_append]
        show done.length + (1 + x.size) ≤ _
        omega
      rintro e w1 ⟨rfl, hB1, hb1⟩
      clear hsl
      go_wp2
      refine ⟨⟨k + 1, by omega, by go_num, .inr ?_, hb.trans hb1⟩, by simp [intOf]; omega⟩
      rw [HSN.out, byteCells_append, ← HX.out]
      exact hB1
    · obtain rfl : k = l.length := by omega
      rw [List.take_length] at hB
      go_wp2_with fail
      refine (Tryz.Builder_String_any (w.heap.size + 1) (w.heap.size + 1) _ _ hB hzr).mono ?_
      rintro e w3 ⟨rfl, hb3⟩
      have hC3 := hb0.trans ((hb.trans hb3).mono (Nat.le_succ _))
      go_wp2
      go_ret
      exact ⟨rfl, hC3⟩
end Go.Proofs.YtibgiohijknmbaaGreatDoor
