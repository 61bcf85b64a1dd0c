/-
  Joined texts: PUrl, ToUrl, Awake, Sort, Fetch.
-/
import Derived.Test.YtibgiohijknmbaaGreatDoorM13
import Derived.Test.YtibgiohijknmbaaGreatDoorM8
import Derived.Deep.AppendLies
import Derived.Test.YtibgiohijknmbaaGreatDoorM11
import Derived.Lib.SlBytesConst
import Derived.Test.YtibgiohijknmbaaGreatDoorM3
/-
  posix.Url: a path's URL.
-/
namespace Go.Proofs.YtibgiohijknmbaaGreatDoor
open Go.RowKit
set_option linter.unusedVariables false
set_option linter.unusedSimpArgs false

def comps (q : ByteArray) : List ByteArray := Lib.splitB ⟨#[47]⟩ 0 (Lib.countB q ⟨#[47]⟩) q
def segB (s : ByteArray) : ByteArray := ⟨(segL s.data.toList).toArray⟩
def fileP (pv : Value) : PSt := { pst0 with sch := ⟨#[102, 105, 108, 101]⟩, hasHost := true, port := -1, path := pv }
structure FInv (w W : World) (n1 : Nat) (l : List ByteArray) (pv : Value) (done : List ByteArray) : Prop where
  res : W.heap[w.heap.size]? = some (.cells url0 41 (0, 0))
  loc : W.heap[n1]? = some (.cells (fileP pv).url 41 (0, 0))
  own : PathOwn W (n1 + 2) pv done
  spl : W.heap[n1 + 1]? = some (.cells (l.map Value.string).toArray 9 (0, 0))
  bel : Below w.heap.size w W
theorem FInv.lt {w W : World} {n1 : Nat} {l : List ByteArray} {pv : Value} {done : List ByteArray} (h : FInv w W n1 l pv done) : n1 + 1 < W.heap.size := (Array.getElem?_eq_some_iff.1 h.spl).1
theorem FInv.below {w W W' : World} {n1 : Nat} {l : List ByteArray} {pv : Value} {done : List ByteArray} (h : FInv w W n1 l pv done) (hn : w.heap.size < n1) (k : Below W.heap.size W W') : FInv w W' n1 l pv done := by
  have hlt := h.lt
  exact ⟨(k.block _ (by omega)).trans h.res, (k.block _ (by omega)).trans h.loc, own_grown (b := n1) h.own (by omega) (grown_below k _), (k.block _ (by omega)).trans h.spl, h.bel.trans (k.mono h.bel.size)⟩
theorem url_set (pv pv' : Value) : (fileP pv).url.setIfInBounds 8 pv' = (fileP pv').url := rfl
/-- The append of a segment, and the store of the row. -/
theorem FInv.app {w W w2 : World} {n1 gg c1 : Nat} {l : List ByteArray} {pv : Value} {done : List ByteArray} {sg : ByteArray} (h : FInv w W n1 l pv done) (hn : w.heap.size < n1) (hg : W.grownBy w2 pv.ownBlock)
    (ho : w2.ownsRow (n1 + 2) 9 1 (.slice (some ⟨gg, 0, none⟩) (done.length + 1) c1) (done.length + 1) (done.map Value.string ++ [.string sg])) :
    FInv w (w2.setCell ⟨n1, 8, none⟩ (.slice (some ⟨gg, 0, none⟩) (done.length + 1) c1)) n1 l (.slice (some ⟨gg, 0, none⟩) (done.length + 1) c1) (done ++ [sg]) := by
  have hlt := h.lt
  have hbl : ∀ q, pv.ownBlock = some q → n1 + 2 ≤ q := fun q hq => (h.own.lt q hq).1
  have hne : ∀ k, k < n1 + 2 → some k ≠ pv.ownBlock := fun k hk e => by have := hbl k e.symm; omega
  have hk : ∀ k, k < n1 + 2 → w2.heap[k]? = W.heap[k]? := fun k hk' => hg.block k (by omega) (hne k hk')
  have hgg : n1 + 2 ≤ gg := (ho.lt gg rfl).1
  refine ⟨?_, ?_, ?_, ?_, ?_⟩
  · rw [heap_setCell_other _ _ _ _ (show w.heap.size ≠ n1 by omega), hk _ (by omega)]; exact h.res
  · have := heap_setCell_same w2 n1 8 _ _ (.slice (some ⟨gg, 0, none⟩) (done.length + 1) c1) ((hk _ (by omega)).trans h.loc)
    rw [this, url_set]
  · unfold PathOwn
    have e : (done ++ [sg]).map Value.string = done.map Value.string ++ [.string sg] := by simp
    rw [e, List.length_append]
    exact ownsRow_setCell_other ho (by show some gg ≠ some n1; intro e; injection e; omega) _
  · rw [heap_setCell_other _ _ _ _ (show n1 + 1 ≠ n1 by omega), hk _ (by omega)]; exact h.spl
  · exact (h.bel.grown hg h.bel.size (fun q hq => by have := hbl q hq; omega)).setCell (show w.heap.size ≤ n1 by omega) _

def PUrlOk (w : World) (l : List ByteArray) (e : Ending) (w' : World) : Prop :=
  ∃ pv, e = .returned (.tuple #[.agg (fileP pv).url, .int .i64 0]) ∧ PathOwn w' w.heap.size pv (l.map segB) ∧ Below w.heap.size w w'

set_option maxRecDepth 100000 in
set_option maxHeartbeats 1000000 in
theorem purl_c (p q : ByteArray) (m : Int) (w : World) (hm : w.cell? ⟨0, 0, none⟩ = some (.int .i64 m)) (hz : 0 < w.heap.size) (hp : 1 ≤ p.size) (hq : p.extract 1 p.size = q) (hs : p.size ≤ 1000000)
    (hl : ∀ s ∈ comps q, s.size ≤ 1000000) (hc : Lib.countB q ⟨#[47]⟩ ≤ 1000000) (hcl : (comps q).length = Lib.countB q ⟨#[47]⟩ + 1)
    (hfine : ∀ W, Below w.heap.size w W → Calls Tryz.prog 75 #[.string p] W fun e w' => e = .returned (.bool true) ∧ Below W.heap.size W w') :
    Calls Tryz.prog 44 #[.string p] w (PUrlOk w (comps q)) := by
  have hfn := hfine (w.alloc (.cells url0 41)) ((Below.refl _ _).alloc (Nat.le_refl _) _)
  have hres0 : (w.alloc (.cells url0 41)).heap[w.heap.size]? = some (.cells url0 41 (0, 0)) := heap_last _ _
  have hb00 : Below w.heap.size w (w.alloc (.cells url0 41)) := (Below.refl _ _).alloc (Nat.le_refl _) _
  have hsz0 : (w.alloc (.cells url0 41)).heap.size = w.heap.size + 1 := by simp
  have hqs : q.size ≤ 1000000 := by rw [← hq]; simp; omega
  go_enter Tryz.func44, Tryz.ntmps44
  go_wp2_with fail
  change Calls _ _ _ (w.alloc (.cells url0 41)) _
  generalize w.alloc (.cells url0 41) = W0 at *
  refine hfn.mono ?_
  rintro e w1 ⟨rfl, hb1⟩
  go_wp2_with fail
  have hw1 := hb1.size
  have hn1 : w.heap.size < w1.heap.size := by omega
  have hmw : (w1.alloc (.cells (fileP (.slice none 0 0)).url 41)).cell? ⟨0, 0, none⟩ = some (.int .i64 m) := by
    have hb := (hb00.trans (hb1.mono hb00.size)).alloc (Nat.le_of_lt hn1) (.cells (fileP (.slice none 0 0)).url 41)
    exact (hb.cell (p := ⟨0, 0, none⟩) hz).trans hm
  have hsp := Tryz.strings_Split q ⟨#[47]⟩ m (w1.alloc (.cells (fileP (.slice none 0 0)).url 41)) (by omega) hmw (by decide)
  rw [← hcl, show (w1.alloc (.cells (fileP (.slice none 0 0)).url 41)).heap.size = w1.heap.size + 1 by simp] at hsp
  change Calls _ _ _ _ (fun e w' => e = .returned (.slice (some ⟨w1.heap.size + 1, 0, none⟩) (comps q).length (comps q).length) ∧ w' = (w1.alloc (.cells (fileP (.slice none 0 0)).url 41)).alloc (.cells ((comps q).map Value.string).toArray 9)) at hsp
  have hlen : (comps q).length ≤ 1000001 := by omega
  have I0 : FInv w ((w1.alloc (.cells (fileP (.slice none 0 0)).url 41)).alloc (.cells ((comps q).map Value.string).toArray 9)) w1.heap.size (comps q) (.slice none 0 0) [] := by
    have s1 : (w1.alloc (.cells (fileP (.slice none 0 0)).url 41)).heap.size = w1.heap.size + 1 := by simp
    refine ⟨?_, ?_, ?_, ?_, ?_⟩
    · rw [Below.heap_alloc _ _ _ (by omega), Below.heap_alloc _ _ _ (by omega), hb1.block _ (by omega)]
      exact hres0
    · rw [Below.heap_alloc _ _ _ (by omega)]
      exact heap_last _ _
    · exact ⟨rfl, .inl ⟨rfl, rfl⟩⟩
    · have := heap_last (w1.alloc (.cells (fileP (.slice none 0 0)).url 41)) (.cells ((comps q).map Value.string).toArray 9)
      rw [s1] at this
      exact this
    · exact ((hb00.trans (hb1.mono hb00.size)).alloc (by omega) _).alloc (by rw [s1]; omega) _
  generalize comps q = l at *
  clear hfn hfine hc hcl hmw hq hqs
  change Calls _ _ _ (w1.alloc (.cells (fileP (.slice none 0 0)).url 41)) _
  refine hsp.mono ?_
  rintro e W2 ⟨rfl, hW2⟩
  rw [← hW2] at I0
  have hn1' : w.heap.size < w1.heap.size := hn1
  generalize w1.heap.size = n1 at *
  clear hsp hW2 hres0 hsz0 hb1 hw1 hn1 hb00
  have HL := Lib.hid hl
  clear hl
  go_wp2_with fail
  go_loopw [16] (fun v wr => ∃ (k : Nat) (pv : Value), k ≤ l.length ∧ v = .int .i64 k ∧ FInv w wr n1 l pv ((l.take k).map segB)) (fun v _ => (l.length - intOf v).toNat)
  case atStart => exact ⟨0, _, by omega, by go_num, I0⟩
  case round =>
    obtain ⟨k, pv, hk, rfl, I⟩ := hrel
    by_cases hlt : k < l.length
    · have hx : (l.getD k ByteArray.empty) ∈ l := by rw [List.getD_eq_getElem?_getD, List.getElem?_eq_getElem hlt]; exact List.getElem_mem _
      have hcs : wr.cell? ⟨n1 + 1, k, none⟩ = some (.string (l.getD k ByteArray.empty)) := by
        rw [Lib.cell_of_heap I.spl k]
        simp [List.getD_eq_getElem?_getD, List.getElem?_eq_getElem hlt]
      have htk : (l.take (k + 1)).map segB = (l.take k).map segB ++ [segB (l.getD k ByteArray.empty)] := by
        rw [List.take_add_one, List.map_append, List.getD_eq_getElem?_getD, List.getElem?_eq_getElem hlt]
        rfl
      have hxs := HL.out _ hx
      generalize l.getD k ByteArray.empty = x at *
      have hdl : ((l.take k).map segB).length = k := by rw [List.length_map, List.length_take]; omega
      have HTK := Lib.hid htk
      clear hx htk
      generalize (l.take k).map segB = done at *
      subst hdl
      obtain ⟨pa, pc, hpv, hpc⟩ : ∃ a c, pv = .slice a done.length c ∧ done.length ≤ c := by
        rcases I.own.2 with ⟨hh, h0⟩ | ⟨g, cap, cur, hh, hg, hhp, hnc, _⟩
        · exact ⟨none, 0, by rw [hh, h0], by omega⟩
        · exact ⟨_, cap, hh, hnc⟩
      subst hpv
      go_wp2_with fail
      have c8 : wr.cell? ⟨n1, 8, none⟩ = some (.slice pa done.length pc) := Lib.cell_of_heap I.loc 8
      have hseg := fun (W : World) (h : W.cell? ⟨0, 0, none⟩ = some (.int .i64 m)) => segment_c x m W h hxs
      have hmr : wr.drew.cell? ⟨0, 0, none⟩ = some (.int .i64 m) := (I.bel.cell (p := ⟨0, 0, none⟩) hz).trans hm
      have hl1 := I.lt
      obtain ⟨i0, hi, hz0, hz1, hz2⟩ := info_parts (show (Tryz.prog.info? 9).map (fun i => (i.zero, i.size, i.bytes)) = some (some (.string ByteArray.empty), 1, 16) by kernel_rfl)
      have HI := Lib.hid (I.below hn1' ((Below.refl _ _).drew))
      have hnews : Hid (∀ (n : Nat) (X : World), X.heap[n]? = some (.cells #[.string ⟨(segL x.data.toList).toArray⟩] 9 (0, 0)) → ∀ j u, ([.string ⟨(segL x.data.toList).toArray⟩] : List Value)[j]? = some u → X.cell? ((⟨n, 0, none⟩ : Addr).add j) = some u) := Lib.hid fun n X hX j u hu => by
        rw [addr_add0, Lib.cell_of_heap hX j, ← hu]
        simp
      clear I
      go_region_law (first
        | (go_simp; go_at_call 77; refine (hseg _ hmr).mono ?_; rintro e w3 ⟨rfl, hb3⟩; have I3 := HI.out.below hn1' hb3; have hl3 := I3.lt; have hO1 := I3.own; have c83 : w3.cell? ⟨n1, 8, none⟩ = some (.slice pa done.length pc) := Lib.cell_of_heap I3.loc 8; have c84 : (w3.alloc (.cells #[.string ⟨(segL x.data.toList).toArray⟩] 9)).cell? ⟨n1, 8, none⟩ = some (.slice pa done.length pc) := (World.cell?_of_block (w := w3) (Below.heap_alloc _ _ _ (show n1 < w3.heap.size by omega))).trans c83)
        | (refine step_append_lies _ (by rfl) (.tmp 21) (.tmp 24) 39 (by rfl) (n1 + 2) 9 i0 _ 1 16 Tryz.underlying39 hi hz0 hz1 hz2 rfl (by omega) (.slice pa done.length pc) done.length (done.map Value.string) (by rfl) (World.ownsRow.alloc hO1 _) ⟨w3.heap.size, 0, none⟩ 1 1 [.string ⟨(segL x.data.toList).toArray⟩] (by rfl) (by rfl) (hnews.out _ _ (heap_last _ _)) (by simp [Value.oneCell']) (by omega) (by unfold maxLen; omega) (by omega) (by simp; omega) (w3.heap.size + 1) (by simp) ?_
           intro gg c1 w4 hown4 hgrow hat hlt4
           have I4 := FInv.app (I3.below hn1' ((Below.refl _ _).alloc (Nat.le_refl _) (.cells #[.string ⟨(segL x.data.toList).toArray⟩] 9))) hn1' hgrow hown4
           have hbn : ∀ q, (Value.slice pa done.length pc).ownBlock = some q → n1 + 2 ≤ q := fun q hq => (hO1.lt q hq).1
           have q8 : w4.cell? ⟨n1, 8, none⟩ = some (.slice pa done.length pc) := (hgrow.cell_far ⟨n1, 8, none⟩ (by simp; omega) (fun e => by have := hbn _ e.symm; simp at this; omega)).trans ((World.cell?_of_block (w := w3) (Below.heap_alloc _ _ _ (show n1 < w3.heap.size by omega))).trans c83)
           have qz : w4.frozen? ⟨n1, 8, none⟩ = false := (hgrow.frozen_far ⟨n1, 8, none⟩ (by simp; omega) (fun e => by have := hbn _ e.symm; simp at this; omega)).trans ((World.frozen?_of_block (w := w3) (Below.heap_alloc _ _ _ (show n1 < w3.heap.size by omega))).trans (frozen_of_row w3 n1 8 _ _ I3.loc))
           clear hbn))
      all_goals
        clear hown4 hgrow hat hO1 hnews hseg
        have HI4 := Lib.hid I4
        clear I4 I3
        go_wp2_with fail
        exact ⟨⟨done.length + 1, _, by omega, by go_num, by rw [HTK.out]; exact HI4.out⟩, by simp [intOf]; omega⟩
    · obtain rfl : k = l.length := by omega
      rw [List.take_length] at I
      obtain ⟨pa, pn, pc, rfl⟩ : ∃ a n c, pv = .slice a n c := by
        rcases I.own.2 with ⟨hh, _⟩ | ⟨g, cap, cur, hh, _⟩
        · exact ⟨_, _, _, hh⟩
        · exact ⟨_, _, _, hh⟩
      have k0 : wr.cell? ⟨n1, 0, none⟩ = some (.string ⟨#[102, 105, 108, 101]⟩) := Lib.cell_of_heap I.loc 0
      have k1 : wr.cell? ⟨n1, 1, none⟩ = some (.string ⟨#[]⟩) := Lib.cell_of_heap I.loc 1
      have k2 : wr.cell? ⟨n1, 2, none⟩ = some (.string ⟨#[]⟩) := Lib.cell_of_heap I.loc 2
      have k3 : wr.cell? ⟨n1, 3, none⟩ = some (.string ⟨#[]⟩) := Lib.cell_of_heap I.loc 3
      have k4 : wr.cell? ⟨n1, 4, none⟩ = some (.bool true) := Lib.cell_of_heap I.loc 4
      have k5 : wr.cell? ⟨n1, 5, none⟩ = some (.int .i64 (-1)) := Lib.cell_of_heap I.loc 5
      have k6 : wr.cell? ⟨n1, 6, none⟩ = some (.bool false) := Lib.cell_of_heap I.loc 6
      have k7 : wr.cell? ⟨n1, 7, none⟩ = some (.string ⟨#[]⟩) := Lib.cell_of_heap I.loc 7
      have k8 : wr.cell? ⟨n1, 8, none⟩ = some (.slice pa pn pc) := Lib.cell_of_heap I.loc 8
      have k9 : wr.cell? ⟨n1, 9, none⟩ = some (.bool false) := Lib.cell_of_heap I.loc 9
      have k10 : wr.cell? ⟨n1, 10, none⟩ = some (.bool false) := Lib.cell_of_heap I.loc 10
      have k11 : wr.cell? ⟨n1, 11, none⟩ = some (.string ⟨#[]⟩) := Lib.cell_of_heap I.loc 11
      have k12 : wr.cell? ⟨n1, 12, none⟩ = some (.string ⟨#[]⟩) := Lib.cell_of_heap I.loc 12
      have r0 : wr.cell? ⟨w.heap.size, 0, none⟩ = some (.string ⟨#[]⟩) := Lib.cell_of_heap I.res 0
      have r1 : wr.cell? ⟨w.heap.size, 1, none⟩ = some (.string ⟨#[]⟩) := Lib.cell_of_heap I.res 1
      have r2 : wr.cell? ⟨w.heap.size, 2, none⟩ = some (.string ⟨#[]⟩) := Lib.cell_of_heap I.res 2
      have r3 : wr.cell? ⟨w.heap.size, 3, none⟩ = some (.string ⟨#[]⟩) := Lib.cell_of_heap I.res 3
      have r4 : wr.cell? ⟨w.heap.size, 4, none⟩ = some (.bool false) := Lib.cell_of_heap I.res 4
      have r5 : wr.cell? ⟨w.heap.size, 5, none⟩ = some (.int .i64 0) := Lib.cell_of_heap I.res 5
      have r6 : wr.cell? ⟨w.heap.size, 6, none⟩ = some (.bool false) := Lib.cell_of_heap I.res 6
      have r7 : wr.cell? ⟨w.heap.size, 7, none⟩ = some (.string ⟨#[]⟩) := Lib.cell_of_heap I.res 7
      have r8 : wr.cell? ⟨w.heap.size, 8, none⟩ = some (.slice none 0 0) := Lib.cell_of_heap I.res 8
      have r9 : wr.cell? ⟨w.heap.size, 9, none⟩ = some (.bool false) := Lib.cell_of_heap I.res 9
      have r10 : wr.cell? ⟨w.heap.size, 10, none⟩ = some (.bool false) := Lib.cell_of_heap I.res 10
      have r11 : wr.cell? ⟨w.heap.size, 11, none⟩ = some (.string ⟨#[]⟩) := Lib.cell_of_heap I.res 11
      have r12 : wr.cell? ⟨w.heap.size, 12, none⟩ = some (.string ⟨#[]⟩) := Lib.cell_of_heap I.res 12
      have rz := fun j => frozen_of_row wr w.heap.size j _ _ I.res
      have hlt2 := I.lt
      go_wp2_with fail
      refine bodyPost_ret (v := .tuple #[.agg #[.string ⟨#[102, 105, 108, 101]⟩, .string ⟨#[]⟩, .string ⟨#[]⟩, .string ⟨#[]⟩, .bool true, .int .i64 (-1), .bool false, .string ⟨#[]⟩, .slice pa pn pc, .bool false, .bool false, .string ⟨#[]⟩, .string ⟨#[]⟩], .int .i64 0]) (by simp [results, Tryz.results44, go_sem, r0, r1, r2, r3, r4, r5, r6, r7, r8, r9, r10, r11, r12]) rfl ?_
      refine ⟨_, rfl, ?_, ?_⟩
      · refine own_base (own_grown (b := w.heap.size) I.own (by omega) ?_) (by omega)
        iterate 13 refine grown_set ?_ _ _
        exact grown_below (Below.refl _ _) _
      · iterate 13 refine below_set ?_ _ _ (Nat.le_refl _) _
        exact I.bel
end Go.Proofs.YtibgiohijknmbaaGreatDoor

/-
  stack.ToUrl of "/a".
-/
namespace Go.Proofs.YtibgiohijknmbaaGreatDoor
open Go.RowKit
set_option linter.unusedVariables false
set_option linter.unusedSimpArgs false

theorem comps_a : comps justA = [justA] := by decide
def fileA : ByteArray := ⟨#[102, 105, 108, 101, 58, 47, 47, 47, 97]⟩
theorem bare_a (pv : Value) : (⟨(bareFile (fileP pv) [segB justA]).toArray⟩ : ByteArray) = fileA := by
  show (⟨(bareFile (fileP (.slice none 0 0)) [segB justA]).toArray⟩ : ByteArray) = fileA
  decide

set_option maxRecDepth 100000 in
set_option maxHeartbeats 1000000 in
theorem tourl_a (m : Int) (w : World) (hm : w.cell? ⟨0, 0, none⟩ = some (.int .i64 m)) (hz : 0 < w.heap.size) :
    Calls Tryz.prog 20 #[.int .i64 0, .string slashA] w fun e w' => e = .returned (.tuple #[.string fileA, .int .i64 0]) ∧ Below w.heap.size w w' := by
  have hu := purl_c slashA justA m w hm hz (by decide) (by decide) (by decide) (by rw [comps_a]; intro s hs; simp at hs; rw [hs]; decide) (by decide) (by decide)
    (fun W hb => fine_a m W ((hb.cell (p := ⟨0, 0, none⟩) hz).trans hm) (by have := hb.size; omega))
  rw [comps_a] at hu
  have hpr := fun (W : World) (pa : Option Addr) (pc : Nat) (h : PathRd W pa pc [segB justA]) => print_file (fileP (.slice pa 1 pc)) pa pc [segB justA] rfl rfl rfl rfl rfl rfl rfl W h (show (⟨#[102, 105, 108, 101]⟩ : ByteArray).size ≤ 1073741824 by decide) (show (⟨#[]⟩ : ByteArray).size ≤ 1073741824 by decide) (by decide) (show (⟨#[]⟩ : ByteArray).size ≤ 1073741824 by decide)
  go_enter Tryz.func20, Tryz.ntmps20
  go_wp2_with fail
  refine hu.mono ?_
  rintro e w1 ⟨pv, rfl, hO, hb1⟩
  obtain ⟨pa, pc, rfl, hR⟩ := hO.rd
  have hR2 := hR.below (w' := w1.alloc (.cells (fileP (.slice pa 1 pc)).url 41)) ((Below.refl _ _).alloc (Nat.le_refl _) _)
  have hp2 := hpr _ _ _ hR2
  rw [bare_a] at hp2
  have hB := hb1.alloc hb1.size (.cells (fileP (.slice pa 1 pc)).url 41)
  have hU : (fileP (.slice pa 1 pc)).url = #[.string ⟨#[102, 105, 108, 101]⟩, .string ⟨#[]⟩, .string ⟨#[]⟩, .string ⟨#[]⟩, .bool true, .int .i64 (-1), .bool false, .string ⟨#[]⟩, .slice pa 1 pc, .bool false, .bool false, .string ⟨#[]⟩, .string ⟨#[]⟩] := rfl
  have e1 : (.slice pa ([justA].map segB).length pc : Value) = .slice pa 1 pc := rfl
  rw [e1]
  rw [hU] at hp2 hB ⊢
  clear hpr hO hR hR2 hu hU e1
  go_wp2_with fail
  refine hp2.mono ?_
  rintro e w2 ⟨rfl, hb2⟩
  go_wp2_with fail
  go_ret2
  exact ⟨rfl, hB.trans (hb2.mono hB.size)⟩
end Go.Proofs.YtibgiohijknmbaaGreatDoor

/-
  carryalllaw27.awake: true.
-/
namespace Go.Proofs.YtibgiohijknmbaaGreatDoor
open Go.RowKit
set_option linter.unusedVariables false
set_option linter.unusedSimpArgs false

def abcL : List UInt8 := [97, 98, 99]
theorem sum0 : sumTo [] (fun _ => abcL) [] = 0 := by decide
theorem sum1 (blk : Nat) : sumTo [(1, blk)] (fun _ => abcL) [(1, blk)] = 3 := by
  simp [sumTo, lenAt, abcL]

set_option maxRecDepth 100000 in
set_option maxHeartbeats 1000000 in
theorem awake_c (m : Int) (w : World) (hm : w.cell? ⟨0, 0, none⟩ = some (.int .i64 m)) (hz : 0 < w.heap.size) :
    Calls Tryz.prog 8 #[] w fun e w' => e = .returned (.bool true) ∧ Below w.heap.size w w' := by
  have hn := stnew_c 1 1 5 w (by decide) (by decide) (by decide) (by decide) (by decide) (by decide)
  unfold capsV at hn
  have hcv := fun (W : World) => Lib.run_convert_bytes_const (P := Tryz.prog) W 29 5 #[.int .u8 97, .int .u8 98, .int .u8 99] 3 3 Tryz.underlying29 Tryz.underlying5
  go_enter Tryz.func8, Tryz.ntmps8
  go_wp2_with fail
  refine hn.mono ?_
  rintro e w1 ⟨s, tb, sb, mb, rfl, hS, hT, hN, hM, hb1⟩
  clear hn hN hM
  go_wp2_with fail
  have hb2 : Below w1.heap.size w1 (w1.alloc (.cells #[.int .u8 97, .int .u8 98, .int .u8 99] 5 (3, 4))) := (Below.refl _ _).alloc (Nat.le_refl _) _
  have hby : BytesAt (w1.alloc (.cells #[.int .u8 97, .int .u8 98, .int .u8 99] 5 (3, 4))) w1.heap.size 0 abcL := fun j hj => by
    have hj' : j < 3 := hj
    rw [Nat.zero_add, Lib.cell_of_heap (heap_last _ _)]
    match j, hj' with
    | 0, _ => rfl
    | 1, _ => rfl
    | 2, _ => rfl
  have hS2 := hS.later hb2
  have hT2 := hT.later hb2
  have hB1 := hb1.alloc hb1.size (.cells #[.int .u8 97, .int .u8 98, .int .u8 99] 5 (3, 4))
  have hsz : w1.heap.size < (w1.alloc (.cells #[.int .u8 97, .int .u8 98, .int .u8 99] 5 (3, 4))).heap.size := by simp
  generalize w1.alloc (.cells #[.int .u8 97, .int .u8 98, .int .u8 99] 5 (3, 4)) = W2 at *
  have hc := create_c w.heap.size s tb sb mb 5 [] 1 0 (fun _ => abcL) (fun _ => ⟨(kindF []).toArray⟩) abcL (some ⟨w1.heap.size, 0, none⟩) 3 ⟨#[]⟩ W2 hS2 hT2 (fun e he => by simp at he) (Or.inr ⟨_, _, rfl, hby, hsz⟩) (by decide) (by decide) (by decide) (by decide) (by decide) (by decide)
  refine hc.mono ?_
  rintro e w3 ⟨blk, hblk, hBl, h3⟩
  rw [sum0, if_neg (by decide), if_neg (by decide)] at h3
  obtain ⟨rfl, hT3, hb3, hk3, hch3⟩ := h3
  have hS3 := hS2.ty hk3 (by decide)
  have hB3 : Below w.heap.size w w3 := hB1.trans hb3
  have hm3 : w3.cell? ⟨0, 0, none⟩ = some (.int .i64 m) := (hB3.cell (p := ⟨0, 0, none⟩) hz).trans hm
  have hBA : BlobsAt w3 w.heap.size [(1, blk)] (fun _ => abcL) (fun _ => ⟨(kindF []).toArray⟩) := fun e he => by
    simp at he
    subst he
    exact ⟨hBl.base hB1.size, show abcL.length ≤ 1048576 by decide⟩
  clear hcv hc hby hS hT hS2 hT2 hb2 hk3 hch3 hsz
  go_wp2_with fail
  refine (tourl_a m w3 hm3 (Nat.lt_of_lt_of_le hz hB3.size)).mono ?_
  rintro e w4 ⟨rfl, hb4⟩
  have hy := sbytes_c w.heap.size s tb sb mb 5 [(1, blk)] 1 1 (fun _ => abcL) (fun _ => ⟨(kindF []).toArray⟩) w4 (hS3.later hb4) (hT3.later hb4) (hBA.later hb4)
  rw [sum1] at hy
  have hB4 := hB3.trans (hb4.mono hB3.size)
  clear hBA hT3 hS3 hBl
  go_wp2_with fail
  refine hy.mono ?_
  rintro e w5 ⟨rfl, hb5⟩
  go_wp2_with fail
  go_ret
  refine ⟨ret_b ?_, hB4.trans (hb5.mono hB4.size)⟩
  rw [ByteArray.toList_eq]
  decide
end Go.Proofs.YtibgiohijknmbaaGreatDoor

/-
  sort.Of: a URL's sort.
-/
namespace Go.Proofs.YtibgiohijknmbaaGreatDoor
open Go.RowKit
set_option linter.unusedVariables false
set_option linter.unusedSimpArgs false

def sData : ByteArray := ⟨#[100, 97, 116, 97]⟩
def sBlob : ByteArray := ⟨#[98, 108, 111, 98]⟩
def sFile : ByteArray := ⟨#[102, 105, 108, 101]⟩
def sJs : ByteArray := ⟨#[106, 97, 118, 97, 115, 99, 114, 105, 112, 116]⟩
def sAbout : ByteArray := ⟨#[97, 98, 111, 117, 116]⟩
def sBlank : ByteArray := ⟨#[98, 108, 97, 110, 107]⟩
def sSrcdoc : ByteArray := ⟨#[115, 114, 99, 100, 111, 99]⟩
def sortI (sch : ByteArray) (opq : Bool) (text : ByteArray) : Int :=
  if sch = sData then 0 else if sch = sBlob then 1 else if sch = sFile then 2 else if sch = sJs then 6
  else if sch = sAbout then (if opq = true ∧ text = sBlank then 3 else if opq = true ∧ text = sSrcdoc then 4 else 5) else 7
theorem str_ne' {s : ByteArray} {a : Array UInt8} (h : ¬ s = ⟨a⟩) : ¬ s = ⟨a⟩ ∧ ¬ s.toList = a.toList ∧ (s.toList == a.toList) = false := by
  have h2 : ¬ s.toList = a.toList := by
    rw [ByteArray.toList_eq]
    intro e
    apply h
    apply ByteArray.ext
    exact Array.toList_inj.1 e
  exact ⟨h, h2, by simpa using h2⟩

set_option maxRecDepth 100000 in
set_option maxHeartbeats 1000000 in
theorem sort_c (p : PSt) (pa : Option Addr) (pn pc : Nat) (hp : p.path = .slice pa pn pc) (w : World) :
    Calls Tryz.prog 51 #[.agg (PSt.url p)] w fun e w' => e = .returned (.int .i64 (sortI p.sch p.opq p.text)) ∧ Below w.heap.size w w' := by
  obtain ⟨sch, user, pass, host, hasHost, port, opq, text, path, hasQ, hasF, query, frag, rest, q, f, bad⟩ := p
  simp only at hp
  subst hp
  unfold PSt.url sortI
  simp only
  have hb0 : Below w.heap.size w (w.alloc (.cells #[.string sch, .string user, .string pass, .string host, .bool hasHost, .int .i64 port, .bool opq, .string text, .slice pa pn pc, .bool hasQ, .bool hasF, .string query, .string frag] 41)) := (Below.refl _ _).alloc (Nat.le_refl _) _
  by_cases e1 : sch = sData
  · subst e1
    rw [if_pos rfl]
    unfold sData at *
    go_enter Tryz.func51, Tryz.ntmps51
    go_wp2
    go_ret
    exact ⟨rfl, hb0⟩
  by_cases e2 : sch = sBlob
  · subst e2
    rw [if_neg e1, if_pos rfl]
    clear e1
    unfold sBlob at *
    go_enter Tryz.func51, Tryz.ntmps51
    go_wp2
    go_ret
    exact ⟨rfl, hb0⟩
  by_cases e3 : sch = sFile
  · subst e3
    rw [if_neg e1, if_neg e2, if_pos rfl]
    clear e1 e2
    unfold sFile at *
    go_enter Tryz.func51, Tryz.ntmps51
    go_wp2
    go_ret
    exact ⟨rfl, hb0⟩
  by_cases e4 : sch = sJs
  · subst e4
    rw [if_neg e1, if_neg e2, if_neg e3, if_pos rfl]
    clear e1 e2 e3
    unfold sJs at *
    go_enter Tryz.func51, Tryz.ntmps51
    go_wp2
    go_ret
    exact ⟨rfl, hb0⟩
  by_cases e5 : sch = sAbout
  · subst e5
    rw [if_neg e1, if_neg e2, if_neg e3, if_neg e4, if_pos rfl]
    clear e1 e2 e3 e4
    unfold sAbout at *
    cases opq
    · simp only [Bool.false_eq_true, false_and, if_false]
      go_enter Tryz.func51, Tryz.ntmps51
      go_wp2
      go_ret
      exact ⟨rfl, hb0⟩
    · simp only [true_and]
      by_cases e6 : text = sBlank
      · subst e6
        rw [if_pos rfl]
        unfold sBlank at *
        go_enter Tryz.func51, Tryz.ntmps51
        go_wp2
        go_ret
        exact ⟨rfl, hb0⟩
      by_cases e7 : text = sSrcdoc
      · subst e7
        rw [if_neg e6, if_pos rfl]
        clear e6
        unfold sSrcdoc at *
        go_enter Tryz.func51, Tryz.ntmps51
        go_wp2
        go_ret
        exact ⟨rfl, hb0⟩
      · rw [if_neg e6, if_neg e7]
        unfold sBlank at e6
        unfold sSrcdoc at e7
        obtain ⟨a1, a2, a3⟩ := str_ne' e6
        obtain ⟨b1, b2, b3⟩ := str_ne' e7
        clear e6 e7
        go_enter Tryz.func51, Tryz.ntmps51
        go_wp2
        go_ret
        exact ⟨rfl, hb0⟩
  · rw [if_neg e1, if_neg e2, if_neg e3, if_neg e4, if_neg e5]
    unfold sData at e1
    unfold sBlob at e2
    unfold sFile at e3
    unfold sJs at e4
    unfold sAbout at e5
    obtain ⟨a1, a2, a3⟩ := str_ne' e1
    obtain ⟨b1, b2, b3⟩ := str_ne' e2
    obtain ⟨c1, c2, c3⟩ := str_ne' e3
    obtain ⟨d1, d2, d3⟩ := str_ne' e4
    obtain ⟨f1, f2, f3⟩ := str_ne' e5
    clear e1 e2 e3 e4 e5
    go_enter Tryz.func51, Tryz.ntmps51
    go_wp2
    go_ret
    exact ⟨rfl, hb0⟩
end Go.Proofs.YtibgiohijknmbaaGreatDoor

/-
  fetch.Fetch, out of what Parse answers: where no blob and no data are asked for.
-/
namespace Go.Proofs.YtibgiohijknmbaaGreatDoor
open Go.RowKit
set_option linter.unusedVariables false
set_option linter.unusedSimpArgs false

/-- Parse answers a URL. -/
def ParseIs (W : World) (p : PSt) (e : Ending) (w' : World) : Prop :=
  ∃ pa pn pc, e = .returned (.tuple #[.agg (PSt.url { p with path := .slice pa pn pc }), .int .i64 0]) ∧ Below W.heap.size W w'
/-- An answer. -/
def ansV (sort status first total : Int) (kind : ByteArray) (body : Value) : Array Value := #[.int .i64 sort, .int .i64 status, .int .i64 first, .int .i64 total, .string kind, body]
def nothingS : ByteArray := ⟨#[116, 101, 120, 116, 47, 104, 116, 109, 108, 59, 99, 104, 97, 114, 115, 101, 116, 61, 117, 116, 102, 45, 56]⟩
def ans0 : Array Value := ansV 0 0 0 0 ⟨#[]⟩ (.slice none 0 0)
def oriV (sch host : ByteArray) (port nonce : Int) : Array Value := #[.string sch, .string host, .int .i64 port, .int .i64 nonce]

set_option maxRecDepth 100000 in
set_option maxHeartbeats 1000000 in
theorem fetch_plain (l : Value) (s : ByteArray) (os oh : ByteArray) (op on : Int) (tp : Option Addr) (p : PSt) (w : World)
    (hP : ∀ W, Below w.heap.size w W → Calls Tryz.prog 26 #[.string s, .pointer none] W (ParseIs W p)) (hsort : sortI p.sch p.opq p.text = 3) :
    Calls Tryz.prog 25 #[l, .string s, .agg (oriV os oh op on), .pointer tp] w fun e w' => e = .returned (.agg (ansV 3 200 0 0 nothingS (.slice none 0 0))) ∧ Below w.heap.size w w' := by
  have hb0 : Below w.heap.size w ((w.alloc (.cells (oriV os oh op on) 23)).alloc (.cells ans0 47)) := ((Below.refl _ _).alloc (Nat.le_refl _) _).alloc (by simp) _
  have hP0 := hP _ hb0
  have hr0 : ((w.alloc (.cells (oriV os oh op on) 23)).alloc (.cells ans0 47)).heap[w.heap.size + 1]? = some (.cells ans0 47 (0, 0)) := by
    have := heap_last (w.alloc (.cells (oriV os oh op on) 23)) (.cells ans0 47)
    rw [show (w.alloc (.cells (oriV os oh op on) 23)).heap.size = w.heap.size + 1 by simp] at this
    exact this
  have ho0 : ((w.alloc (.cells (oriV os oh op on) 23)).alloc (.cells ans0 47)).heap[w.heap.size]? = some (.cells (oriV os oh op on) 23 (0, 0)) := by
    rw [Below.heap_alloc _ _ _ (by simp)]
    exact heap_last _ _
  have hz0 : ((w.alloc (.cells (oriV os oh op on) 23)).alloc (.cells ans0 47)).heap.size = w.heap.size + 2 := by simp
  have HSO := Lib.hid hsort
  clear hP hsort
  have hgen : ∀ W, W = (w.alloc (.cells (oriV os oh op on) 23)).alloc (.cells ans0 47) → W = (w.alloc (.cells #[.string os, .string oh, .int .i64 op, .int .i64 on] 23)).alloc (.cells #[.int .i64 0, .int .i64 0, .int .i64 0, .int .i64 0, .string ⟨#[]⟩, .slice none 0 0] 47) := fun _ h => h
  obtain ⟨W0, hW0⟩ : ∃ W, W = (w.alloc (.cells (oriV os oh op on) 23)).alloc (.cells ans0 47) := ⟨_, rfl⟩
  rw [← hW0] at hP0 hb0 hr0 hz0 ho0
  have hW1 := Lib.hid (hgen _ hW0)
  clear hW0 hgen
  unfold oriV
  go_enter Tryz.func25, Tryz.ntmps25
  go_wp2_with fail
  rw [← hW1.out]
  clear hW1
  refine hP0.mono ?_
  rintro e w1 ⟨pa, pn, pc, rfl, hb1⟩
  have hr1 := (hb1.block _ (by omega)).trans hr0
  have hB1 := hb0.trans (hb1.mono hb0.size)
  have hz1 : w.heap.size + 2 ≤ w1.heap.size := by have := hb1.size; omega
  have HR1 := Lib.hid hr1
  have HO1 := Lib.hid ((hb1.block w.heap.size (by omega)).trans ho0)
  clear hP0 hb0 hr0 hr1 hb1 hz0 ho0
  unfold PSt.url
  simp only
  have hso := fun W => sort_c { p with path := .slice pa pn pc } pa pn pc rfl W
  simp only at hso
  rw [HSO.out] at hso
  unfold PSt.url at hso
  simp only at hso
  go_wp2_with fail
  refine (hso _).mono ?_
  rintro e w2 ⟨rfl, hb2⟩
  have hz2 : w1.heap.size + 1 ≤ w2.heap.size := by have := hb2.size; simp at this; omega
  have hr2 := (hb2.block (w.heap.size + 1) (by simp; omega)).trans ((Below.heap_alloc _ _ _ (by omega)).trans HR1.out)
  have hB2 := (hB1.alloc hB1.size _).trans (hb2.mono (by simp; omega))
  have r0 : w2.cell? ⟨w.heap.size + 1, 0, none⟩ = some (.int .i64 0) := Lib.cell_of_heap hr2 0
  have r1 : w2.cell? ⟨w.heap.size + 1, 1, none⟩ = some (.int .i64 0) := Lib.cell_of_heap hr2 1
  have r2 : w2.cell? ⟨w.heap.size + 1, 2, none⟩ = some (.int .i64 0) := Lib.cell_of_heap hr2 2
  have r3 : w2.cell? ⟨w.heap.size + 1, 3, none⟩ = some (.int .i64 0) := Lib.cell_of_heap hr2 3
  have r4 : w2.cell? ⟨w.heap.size + 1, 4, none⟩ = some (.string ⟨#[]⟩) := Lib.cell_of_heap hr2 4
  have r5 : w2.cell? ⟨w.heap.size + 1, 5, none⟩ = some (.slice none 0 0) := Lib.cell_of_heap hr2 5
  have rz := fun j => frozen_of_row w2 (w.heap.size + 1) j _ _ hr2
  have hlt2 : w.heap.size + 1 < w2.heap.size := by omega
  clear hr2 hb2 hso hB1
  go_wp2
  refine bodyPost_ret (v := .agg #[.int .i64 3, .int .i64 200, .int .i64 0, .int .i64 0, .string nothingS, .slice none 0 0]) (by simp [results, Tryz.results25, go_sem, r0, r1, r2, r3, r4, r5, hlt2, nothingS]) rfl ?_
  refine ⟨rfl, Below.alloc ?_ ?_ _⟩
  · iterate 6 refine below_set ?_ _ _ (Nat.le_succ _) _
    exact hB2
  · simp [World.setCell]; omega
end Go.Proofs.YtibgiohijknmbaaGreatDoor
