/-
  url.authority, url.Path: of URLs without a host, and of files'.
-/
import Derived.Test.YtibgiohijknmbaaGreatDoorEsc
import Derived.Test.YtibgiohijknmbaaGreatDoorParse
namespace Go.Proofs.YtibgiohijknmbaaGreatDoor
open Go.RowKit
set_option linter.unusedVariables false
set_option linter.unusedSimpArgs false

set_option maxRecDepth 100000 in
theorem auth_none (p : PSt) (pa : Option Addr) (pn pc : Nat) (hp : p.path = .slice pa pn pc) (hh : p.hasHost = false) (w : World) :
    Calls Tryz.prog 73 #[.agg (PSt.url p)] w fun e w' => e = .returned (.string ⟨#[]⟩) ∧ Below w.heap.size w w' := by
  obtain ⟨sch, user, pass, host, hasHost, port, opq, text, path, hasQ, hasF, query, frag, rest, q, f, bad⟩ := p
  simp only at hp hh
  subst hp
  subst hh
  unfold PSt.url
  simp only
  have hb0 : Below w.heap.size w (w.alloc (.cells #[.string sch, .string user, .string pass, .string host, .bool false, .int .i64 port, .bool opq, .string text, .slice pa pn pc, .bool hasQ, .bool hasF, .string query, .string frag] 41)) := (Below.refl _ _).alloc (Nat.le_refl _) _
  go_enter Tryz.func73, Tryz.ntmps73
  go_wp2
  go_ret
  exact ⟨rfl, hb0⟩

theorem builder_fresh (w : World) : Lib.IsBuilder 191 5 w.heap.size w.heap.size (Lib.byteCells []) (w.alloc (.cells #[.pointer none, .slice none 0 0] 191)) :=
  .inl ⟨Nat.le_refl _, .slice none 0 0, heap_last _ _, ⟨rfl, .inl ⟨rfl, rfl⟩⟩, by simp [Value.ownBlock]⟩
theorem strCells_eq (s : ByteArray) : Lib.strCells s = Lib.byteCells s.data.toList := rfl
def slash2 : ByteArray := ⟨#[47, 47]⟩
set_option maxRecDepth 100000 in
set_option maxHeartbeats 1000000 in
theorem auth_file (p : PSt) (pa : Option Addr) (pn pc : Nat) (hp : p.path = .slice pa pn pc) (hh : p.hasHost = true) (hu : p.user = ⟨#[]⟩) (hw : p.pass = ⟨#[]⟩) (hport : p.port = -1) (hz : p.host.size ≤ 1073741824) (w : World) :
    Calls Tryz.prog 73 #[.agg (PSt.url p)] w fun e w' => e = .returned (.string ⟨(47 :: 47 :: p.host.data.toList).toArray⟩) ∧ Below w.heap.size w w' := by
  obtain ⟨sch, user, pass, host, hasHost, port, opq, text, path, hasQ, hasF, query, frag, rest, q, f, bad⟩ := p
  simp only at hp hh hu hw hport hz ⊢
  subst hp
  subst hh
  subst hu
  subst hw
  subst hport
  unfold PSt.url
  simp only
  have hb0 : Below w.heap.size w (w.alloc (.cells #[.string sch, .string ⟨#[]⟩, .string ⟨#[]⟩, .string host, .bool true, .int .i64 (-1), .bool opq, .string text, .slice pa pn pc, .bool hasQ, .bool hasF, .string query, .string frag] 41)) := (Below.refl _ _).alloc (Nat.le_refl _) _
  have hu0 := heap_last w (.cells #[.string sch, .string ⟨#[]⟩, .string ⟨#[]⟩, .string host, .bool true, .int .i64 (-1), .bool opq, .string text, .slice pa pn pc, .bool hasQ, .bool hasF, .string query, .string frag] 41)
  have hz0 : (w.alloc (.cells #[.string sch, .string ⟨#[]⟩, .string ⟨#[]⟩, .string host, .bool true, .int .i64 (-1), .bool opq, .string text, .slice pa pn pc, .bool hasQ, .bool hasF, .string query, .string frag] 41)).heap.size = w.heap.size + 1 := by simp
  have hbu := builder_fresh (w.alloc (.cells #[.string sch, .string ⟨#[]⟩, .string ⟨#[]⟩, .string host, .bool true, .int .i64 (-1), .bool opq, .string text, .slice pa pn pc, .bool hasQ, .bool hasF, .string query, .string frag] 41))
  go_enter Tryz.func73, Tryz.ntmps73
  go_wp2_with fail
  generalize w.alloc (.cells #[.string sch, .string ⟨#[]⟩, .string ⟨#[]⟩, .string host, .bool true, .int .i64 (-1), .bool opq, .string text, .slice pa pn pc, .bool hasQ, .bool hasF, .string query, .string frag] 41) = W0 at *
  rw [hz0] at hbu
  have hA : Below (w.heap.size + 1) W0 (W0.alloc (.cells #[.pointer none, .slice none 0 0] 191)) := (Below.refl _ _).alloc (by omega) _
  have hzA : w.heap.size + 1 ≤ (W0.alloc (.cells #[.pointer none, .slice none 0 0] 191)).heap.size := by simp; omega
  have hsl := fun s hs => wstring_c (w.heap.size + 1) (w.heap.size + 1) (Lib.byteCells []) s _ hbu hs hzA
  refine (hsl _ ?_).mono ?_
  · show 0 + 2 ≤ 140737488355328
    omega
  rintro e w1 ⟨rfl, hB1, hb1⟩
  have hC1 := hA.trans hb1
  have e47 : Lib.byteCells [] ++ Lib.strCells (⟨#[47, 47]⟩ ++ ⟨#[]⟩) = Lib.byteCells [47, 47] := rfl
  rw [e47] at hB1
  have d2 : w1.cell? ⟨w.heap.size, 2, none⟩ = some (.string ⟨#[]⟩) := (hC1.cell (p := ⟨w.heap.size, 2, none⟩) (Nat.lt_succ_self _)).trans (Lib.cell_of_heap hu0 2)
  have d1 : w1.cell? ⟨w.heap.size, 1, none⟩ = some (.string ⟨#[]⟩) := (hC1.cell (p := ⟨w.heap.size, 1, none⟩) (Nat.lt_succ_self _)).trans (Lib.cell_of_heap hu0 1)
  have d3 : w1.cell? ⟨w.heap.size, 3, none⟩ = some (.string host) := (hC1.cell (p := ⟨w.heap.size, 3, none⟩) (Nat.lt_succ_self _)).trans (Lib.cell_of_heap hu0 3)
  have HB1 := Lib.hid hB1
  have HU := Lib.hid hu0
  have hz1 : w.heap.size + 1 ≤ w1.heap.size := Nat.le_trans hzA hb1.size
  have hl1 : w.heap.size < w1.heap.size := by omega
  clear hsl hbu hB1 hb1 hu0 e47 hzA
  go_wp2_with fail
  refine (wstring_c (w.heap.size + 1) (w.heap.size + 1) (Lib.byteCells [47, 47]) host _ (.inr HB1.out) (by rw [Lib.byteCells_length]; simp; omega) hz1).mono ?_
  rintro e w2 ⟨rfl, hB2, hb2⟩
  have hC2 := hC1.trans hb2
  have d5 : w2.cell? ⟨w.heap.size, 5, none⟩ = some (.int .i64 (-1)) := (hC2.cell (p := ⟨w.heap.size, 5, none⟩) (Nat.lt_succ_self _)).trans (Lib.cell_of_heap HU.out 5)
  rw [strCells_eq, ← byteCells_append] at hB2
  have HB2 := Lib.hid hB2
  have hz2 : w.heap.size + 1 ≤ w2.heap.size := Nat.le_trans hz1 hb2.size
  clear hB2 hb2 hC1 d1 d2 d3
  go_wp2_with fail
  refine (Tryz.Builder_String_any (w.heap.size + 1) (w.heap.size + 1) _ _ (.inr HB2.out) hz2).mono ?_
  rintro e w3 ⟨rfl, hb3⟩
  have hC3 := hb0.trans ((hC2.trans hb3).mono (Nat.le_succ _))
  go_wp2
  go_ret
  exact ⟨rfl, hC3⟩
end Go.Proofs.YtibgiohijknmbaaGreatDoor
