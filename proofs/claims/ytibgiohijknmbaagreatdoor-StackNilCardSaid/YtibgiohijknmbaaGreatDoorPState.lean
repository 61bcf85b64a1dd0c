/-
  The parser's state in memory; slashes, based: what each call answers.
-/
import Derived.Test.YtibgiohijknmbaaGreatDoorUrl
import Derived.Laws.Rows
import Derived.Lib.Builder
import Derived.Maps.AppendAt
import Derived.Deep.AppendLies
import Derived.OwnWalk
import Derived.Deep.QuietTactic
import Derived.BigQuiet
namespace Go.Proofs.YtibgiohijknmbaaGreatDoor
open Go.RowKit
set_option linter.unusedVariables false
set_option linter.unusedSimpArgs false

/-- A parser: its URL's parts, and what is left to read. -/
structure PSt where
  sch : ByteArray
  user : ByteArray
  pass : ByteArray
  host : ByteArray
  hasHost : Bool
  port : Int
  opq : Bool
  text : ByteArray
  path : Value
  hasQ : Bool
  hasF : Bool
  query : ByteArray
  frag : ByteArray
  rest : ByteArray
  q : ByteArray
  f : ByteArray
  bad : Bool
def PSt.cells (p : PSt) : Array Value :=
  #[.string p.sch, .string p.user, .string p.pass, .string p.host, .bool p.hasHost, .int .i64 p.port, .bool p.opq, .string p.text, p.path, .bool p.hasQ, .bool p.hasF, .string p.query, .string p.frag,
    .pointer none, .string p.rest, .string p.q, .string p.f, .bool p.bad]
def ParserAt (w : World) (b : Nat) (p : PSt) : Prop := w.heap[b]? = some (.cells p.cells 115 (0, 0))
theorem ParserAt.lt {w : World} {b : Nat} {p : PSt} (h : ParserAt w b p) : b < w.heap.size := by
  rcases Nat.lt_or_ge b w.heap.size with h' | h'
  · exact h'
  · have h : w.heap[b]? = _ := h
    simp [Array.getElem?_eq_none h'] at h
theorem ParserAt.cell {w : World} {b : Nat} {p : PSt} (h : ParserAt w b p) (j : Nat) : w.cell? ⟨b, j, none⟩ = p.cells[j]? := Lib.cell_of_heap h j
theorem ParserAt.free {w : World} {b : Nat} {p : PSt} (h : ParserAt w b p) (j : Nat) : w.frozen? ⟨b, j, none⟩ = false := frozen_of_row w b j _ _ h
theorem ParserAt.below {w w' : World} {b : Nat} {p : PSt} (h : ParserAt w b p) (k : Below w.heap.size w w') : ParserAt w' b p := (k.block b h.lt).trans h
theorem ParserAt.set {w : World} {b j : Nat} {p p' : PSt} {v : Value} (h : ParserAt w b p) (e : p.cells.setIfInBounds j v = p'.cells) : ParserAt (w.setCell ⟨b, j, none⟩ v) b p' := by
  have := heap_setCell_same w b j _ _ v h
  rw [e] at this
  exact this
theorem grown_below {w w' : World} (h : Below w.heap.size w w') (row : Option Nat) : w.grownBy w' row := ⟨h.os, h.tape, h.output, h.size, fun i hi _ => h.block i hi⟩
theorem grown_set {w w' : World} {b : Nat} (h : w.grownBy w' (some b)) (j : Nat) (v : Value) : w.grownBy (w'.setCell ⟨b, j, none⟩ v) (some b) :=
  ⟨h.os, h.tape, h.output, by simpa [World.setCell] using h.size, fun i hi hne => by rw [heap_setCell_other _ _ _ _ (fun e => hne (by rw [e]))]; exact h.block i hi hne⟩
theorem grown_drewN {w w' : World} {row : Option Nat} (h : w.grownBy w' row) (n : Nat) : w.grownBy (w'.drewN n) row := ⟨h.os, h.tape, h.output, h.size, h.block⟩
theorem below_cells {W w1 : World} (hb : Below W.heap.size W w1) : (∀ b o, b < W.heap.size → w1.cell? ⟨b, o, none⟩ = W.cell? ⟨b, o, none⟩) ∧ (∀ b o, b < W.heap.size → w1.frozen? ⟨b, o, none⟩ = W.frozen? ⟨b, o, none⟩) :=
  ⟨fun b o h => hb.cell (p := ⟨b, o, none⟩) h, fun b o h => hb.frozen (p := ⟨b, o, none⟩) h⟩
theorem below_drewN (w : World) (n : Nat) : Below w.heap.size w (w.drewN n) := ⟨rfl, rfl, rfl, Nat.le_refl _, fun _ _ => rfl⟩

def slashesF (sch : List UInt8) : ByteArray := if specialB sch = true then ⟨#[47, 92]⟩ else ⟨#[47]⟩
set_option maxHeartbeats 400000 in
theorem slashes_c (p : PSt) (b : Nat) (w : World) (h : ParserAt w b p) (hs : p.sch.size ≤ maxLen) :
    Calls Tryz.prog 112 #[.pointer (some ⟨b, 0, none⟩)] w fun e w' => e = .returned (.string (slashesF p.sch.data.toList)) ∧ Below w.heap.size w w' := by
  have hc := h.cell 0
  simp only [PSt.cells] at hc
  unfold slashesF
  cases hsp : specialB p.sch.data.toList with
  | true =>
    have HS := Lib.hid hsp
    clear hsp
    go_enter Tryz.func112, Tryz.ntmps112
    go_wp2_with (go_at_call 107; refine (special_c _ _ hs).mono ?_; rintro e w1 ⟨rfl, hb⟩; rw [HS.out])
    go_ret
    exact ⟨rfl, hb⟩
  | false =>
    have HS := Lib.hid hsp
    clear hsp
    go_enter Tryz.func112, Tryz.ntmps112
    go_wp2_with (go_at_call 107; refine (special_c _ _ hs).mono ?_; rintro e w1 ⟨rfl, hb⟩; rw [HS.out])
    go_ret
    exact ⟨rfl, hb⟩

/-- Without a base no scheme is the base's. -/
theorem based_c (p : PSt) (b : Nat) (s : ByteArray) (w : World) (h : ParserAt w b p) :
    Calls Tryz.prog 105 #[.pointer (some ⟨b, 0, none⟩), .string s] w fun e w' => e = .returned (.bool false) ∧ w = w' := by
  have hc := h.cell 13
  simp only [PSt.cells] at hc
  go_enter Tryz.func105, Tryz.ntmps105
  go_wp2
  go_ret
  exact ⟨rfl, rfl⟩
end Go.Proofs.YtibgiohijknmbaaGreatDoor
