/-
  table: find, Get, Handles.
-/
import Derived.Test.YtibgiohijknmbaaGreatDoorTab
namespace Go.Proofs.YtibgiohijknmbaaGreatDoor
open Go.RowKit
set_option linter.unusedVariables false
set_option linter.unusedSimpArgs false

/-- A table in memory. -/
def TabAt (w : World) (B tb : Nat) (es : Ents) (room last : Int) : Prop :=
  B ≤ tb ∧ es.length ≤ 64 ∧ ∃ lv, w.heap[tb]? = some (.cells #[lv, .int .i64 room, .int .i64 last] 127 (0, 0)) ∧ RowE w B lv es
theorem TabAt.lt {w : World} {B tb : Nat} {es : Ents} {room last : Int} (h : TabAt w B tb es room last) : tb < w.heap.size := by
  obtain ⟨_, _, v, hv, _⟩ := h
  exact (Array.getElem?_eq_some_iff.1 hv).1
theorem TabAt.later {w w' : World} {B tb : Nat} {es : Ents} {room last : Int} (h : TabAt w B tb es room last) (hb : Below w.heap.size w w') : TabAt w' B tb es room last := by
  have hlt := h.lt
  obtain ⟨h1, h2, v, hv, ho⟩ := h
  refine ⟨h1, h2, v, (hb.block _ hlt).trans hv, ?_⟩
  exact ho.kept (w' := w') (row := none) ⟨hb.os, hb.tape, hb.output, hb.size, fun i hi _ => hb.block i hi⟩ (by cases v.ownBlock <;> simp)
theorem firstAt_range (p : Int × Nat → Bool) (es : Ents) : -1 ≤ firstAt p es ∧ firstAt p es < es.length := by
  unfold firstAt
  split <;> omega
def getF (es : Ents) (h : Int) : Option Nat := (es.find? fun e => e.1 == h).map (·.2)
theorem getF_none {es : Ents} {h : Int} (hf : firstAt (fun e => e.1 == h) es < 0) : getF es h = none := by
  unfold firstAt at hf
  split at hf
  · omega
  · rename_i hn
    unfold getF
    rw [List.find?_eq_none.2]
    · rfl
    · intro e he
      have hle := List.findIdx_le_length (p := fun e : Int × Nat => e.1 == h) (xs := es)
      have := List.findIdx_eq_length.1 (Nat.le_antisymm hle (Nat.le_of_not_lt hn)) e he
      simpa using this
theorem getF_some {es : Ents} {h : Int} (hf : 0 ≤ firstAt (fun e => e.1 == h) es) : ∃ k : Nat, firstAt (fun e => e.1 == h) es = (k : Int) ∧ k < es.length ∧ getF es h = some (es.getD k (0, 0)).2 := by
  unfold firstAt at *
  split at hf
  · rename_i hlt
    refine ⟨_, by rw [if_pos hlt], hlt, ?_⟩
    unfold getF
    rw [List.find?_eq_getElem?_findIdx, List.getElem?_eq_getElem hlt, List.getD_eq_getElem?_getD, List.getElem?_eq_getElem hlt]
    rfl
  · omega

set_option maxRecDepth 100000 in
theorem find_c (B tb : Nat) (es : Ents) (room last h : Int) (w : World) (hT : TabAt w B tb es room last) :
    Calls Tryz.prog 63 #[.pointer (some ⟨tb, 0, none⟩), .int .i64 h] w fun e w' => e = .returned (.int .i64 (firstAt (fun e => e.1 == h) es)) ∧ Below w.heap.size w w' := by
  have hlt := hT.lt
  have hb0 : Below w.heap.size w (w.alloc (.cells #[.int .i64 h] 2)) := (Below.refl _ _).alloc (Nat.le_refl _) _
  have hT0 := hT.later hb0
  obtain ⟨_, hn, lv, hv, ho⟩ := hT
  obtain ⟨_, _, lv', hv', ho'⟩ := hT0
  have c0 : w.cell? ⟨tb, 0, none⟩ = some lv := Lib.cell_of_heap hv 0
  have hll : lv' = lv := by
    have e := (hb0.block _ hlt).trans hv
    rw [hv'] at e
    have e := Option.some.inj e
    injection e with e
    have := congrArg (fun a : Array Value => a[0]?) e
    simpa using this
  subst hll
  have hi := idx_c B lv' es w.heap.size h _ ho' (Lib.cell_of_heap (heap_last w _) 0) (by simp) (by omega)
  clear hv hv' ho ho' hn
  go_enter Tryz.func63, Tryz.ntmps63
  go_wp2_with fail
  refine hi.mono ?_
  rintro e w1 ⟨rfl, hb1⟩
  go_wp2
  go_ret
  exact ⟨rfl, hb0.trans (hb1.mono hb0.size)⟩

def optPtr (o : Option Nat) : Value := .pointer (o.map fun k => ⟨k, 0, none⟩)
set_option maxRecDepth 100000 in
theorem get_c (B tb : Nat) (es : Ents) (room last h : Int) (w : World) (hT : TabAt w B tb es room last) :
    Calls Tryz.prog 29 #[.pointer (some ⟨tb, 0, none⟩), .int .i64 h] w fun e w' => e = .returned (.tuple #[optPtr (getF es h), .bool (getF es h).isSome]) ∧ Below w.heap.size w w' := by
  have hf := find_c B tb es room last h w hT
  have hlt := hT.lt
  by_cases hneg : firstAt (fun e => e.1 == h) es < 0
  · rw [getF_none hneg]
    unfold optPtr
    simp only [Option.map_none, Option.isSome_none]
    generalize firstAt (fun e => e.1 == h) es = at_ at *
    clear hT
    go_enter Tryz.func29, Tryz.ntmps29
    go_wp2_with fail
    refine hf.mono ?_
    rintro e w1 ⟨rfl, hb1⟩
    go_wp2
    go_ret2
    exact ⟨rfl, hb1⟩
  · obtain ⟨k, hk, hkl, hg⟩ := getF_some (by omega : 0 ≤ firstAt (fun e => e.1 == h) es)
    rw [hk] at hf
    rw [hg]
    clear hk hneg
    unfold optPtr
    simp only [Option.map_some, Option.isSome_some]
    have hev := (entV_get es (0, 0) k hkl).2
    obtain ⟨blk, hblk⟩ : ∃ blk, (es.getD k (0, 0)).2 = blk := ⟨_, rfl⟩
    rw [hblk] at hev ⊢
    have HEV := Lib.hid hev
    have HT := Lib.hid hT
    clear hg hT hev hblk
    go_enter Tryz.func29, Tryz.ntmps29
    go_wp2_with fail
    refine hf.mono ?_
    rintro e w1 ⟨rfl, hb1⟩
    obtain ⟨_, hn, lv, hv, ho⟩ := HT.out.later hb1
    have c0 : w1.cell? ⟨tb, 0, none⟩ = some lv := Lib.cell_of_heap hv 0
    rcases ho.2 with ⟨_, h0⟩ | ⟨g, cap, cur, rfl, hg2, hhp, hnc, hm, hs, ht⟩
    · omega
    · have c2 := ho.cells (g := g) rfl _ _ HEV.out
      rw [addr_add0] at c2
      clear hv ho hs ht hhp
      have hkl' : (k : Int) < (es.length : Int) := by omega
      go_wp2
      go_ret2
      exact ⟨rfl, hb1⟩
end Go.Proofs.YtibgiohijknmbaaGreatDoor
