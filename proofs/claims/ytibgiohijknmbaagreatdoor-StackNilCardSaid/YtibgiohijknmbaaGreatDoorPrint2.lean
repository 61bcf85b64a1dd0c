/-
  url.Path, url.Bare, url.Print: of URLs whose path is opaque, and of files'.
-/
import Derived.Test.YtibgiohijknmbaaGreatDoorPrint
namespace Go.Proofs.YtibgiohijknmbaaGreatDoor
open Go.RowKit
set_option linter.unusedVariables false
set_option linter.unusedSimpArgs false

/-- A list of strings that can be read. -/
def PathRd (w : World) (a : Option Addr) (cap : Nat) (l : List ByteArray) : Prop :=
  l.length ≤ cap ∧ (0 < l.length → ∃ g, a = some ⟨g, 0, none⟩ ∧ g < w.heap.size ∧ ∀ j, j < l.length → w.cell? ⟨g, j, none⟩ = some (.string (l.getD j ByteArray.empty)))
theorem PathRd.below {w w' : World} {a : Option Addr} {cap : Nat} {l : List ByteArray} (h : PathRd w a cap l) (hb : Below w.heap.size w w') : PathRd w' a cap l :=
  ⟨h.1, fun h0 => by
    obtain ⟨g, e, hg, hc⟩ := h.2 h0
    exact ⟨g, e, Nat.lt_of_lt_of_le hg hb.size, fun j hj => (hb.cell (p := ⟨g, j, none⟩) hg).trans (hc j hj)⟩⟩
theorem PathOwn.rd {w : World} {B : Nat} {pv : Value} {l : List ByteArray} (h : PathOwn w B pv l) : ∃ a cap, pv = .slice a l.length cap ∧ PathRd w a cap l := by
  rcases h.2 with ⟨hv, h0⟩ | ⟨g, cap, cur, hv, hg, hh, hn, hm, hs, ht⟩
  · exact ⟨none, 0, by rw [hv, h0], by omega, fun h => by omega⟩
  · refine ⟨some ⟨g, 0, none⟩, cap, hv, hn, fun _ => ⟨g, rfl, (Array.getElem?_eq_some_iff.1 hh).1, fun j hj => ?_⟩⟩
    have := h.cells (g := g) (by rw [hv]; rfl) j (.string (l.getD j ByteArray.empty)) (by simp [List.getD_eq_getElem?_getD, List.getElem?_eq_getElem hj])
    rw [addr_add0] at this
    exact this
def pathB (l : List ByteArray) : List UInt8 := l.flatMap fun s => 47 :: s.data.toList
theorem pathB_snoc (l : List ByteArray) (s : ByteArray) : pathB (l ++ [s]) = pathB l ++ 47 :: s.data.toList := by simp [pathB]
theorem pathB_take (l : List ByteArray) (k : Nat) (hk : k < l.length) : (pathB (l.take k)).length + 1 + (l.getD k ByteArray.empty).size ≤ (pathB l).length := by
  have e : l = l.take k ++ (l.getD k ByteArray.empty) :: l.drop (k + 1) := by
    rw [List.getD_eq_getElem?_getD, List.getElem?_eq_getElem hk]
    simp
  have : pathB l = pathB (l.take k) ++ (47 :: (l.getD k ByteArray.empty).data.toList) ++ pathB (l.drop (k + 1)) := by
    conv => lhs; rw [e]
    simp [pathB]
  have e2 : (l.getD k ByteArray.empty).data.toList.length = (l.getD k ByteArray.empty).size := by rw [Array.length_toList]; rfl
  rw [this, List.length_append, List.length_append, List.length_cons]
  omega

set_option maxRecDepth 100000 in
set_option maxHeartbeats 1000000 in
theorem upath_opq (p : PSt) (pa : Option Addr) (pn pc : Nat) (hp : p.path = .slice pa pn pc) (hh : p.opq = true) (w : World) :
    Calls Tryz.prog 74 #[.agg (PSt.url p)] w fun e w' => e = .returned (.string p.text) ∧ Below w.heap.size w w' := by
  obtain ⟨sch, user, pass, host, hasHost, port, opq, text, path, hasQ, hasF, query, frag, rest, q, f, bad⟩ := p
  simp only at hp hh
  subst hp
  subst hh
  unfold PSt.url
  simp only
  have hb0 : Below w.heap.size w (w.alloc (.cells #[.string sch, .string user, .string pass, .string host, .bool hasHost, .int .i64 port, .bool true, .string text, .slice pa pn pc, .bool hasQ, .bool hasF, .string query, .string frag] 41)) := (Below.refl _ _).alloc (Nat.le_refl _) _
  go_enter Tryz.func74, Tryz.ntmps74
  go_wp2
  go_ret
  exact ⟨rfl, hb0⟩

set_option maxRecDepth 100000 in
set_option maxHeartbeats 1000000 in
theorem upath_c (p : PSt) (pa : Option Addr) (pc : Nat) (l : List ByteArray) (hp : p.path = .slice pa l.length pc) (hh : p.opq = false) (w : World) (hr : PathRd w pa pc l) (hz : (pathB l).length ≤ 1073741824) :
    Calls Tryz.prog 74 #[.agg (PSt.url p)] w fun e w' => e = .returned (.string ⟨(pathB l).toArray⟩) ∧ Below w.heap.size w w' := by
  obtain ⟨sch, user, pass, host, hasHost, port, opq, text, path, hasQ, hasF, query, frag, rest, q, f, bad⟩ := p
  simp only at hp hh
  subst hp
  subst hh
  unfold PSt.url
  simp only
  have hlen : l.length ≤ (pathB l).length := by
    clear hr hz
    induction l with
    | nil => simp
    | cons a t ih => simp [pathB] at *; omega
  have hb0 : Below w.heap.size w (w.alloc (.cells #[.string sch, .string user, .string pass, .string host, .bool hasHost, .int .i64 port, .bool false, .string text, .slice pa l.length pc, .bool hasQ, .bool hasF, .string query, .string frag] 41)) := (Below.refl _ _).alloc (Nat.le_refl _) _
  have hz0 : (w.alloc (.cells #[.string sch, .string user, .string pass, .string host, .bool hasHost, .int .i64 port, .bool false, .string text, .slice pa l.length pc, .bool hasQ, .bool hasF, .string query, .string frag] 41)).heap.size = w.heap.size + 1 := by simp
  have hbu := builder_fresh (w.alloc (.cells #[.string sch, .string user, .string pass, .string host, .bool hasHost, .int .i64 port, .bool false, .string text, .slice pa l.length pc, .bool hasQ, .bool hasF, .string query, .string frag] 41))
  go_enter Tryz.func74, Tryz.ntmps74
  go_wp2_with fail
  generalize w.alloc (.cells #[.string sch, .string user, .string pass, .string host, .bool hasHost, .int .i64 port, .bool false, .string text, .slice pa l.length pc, .bool hasQ, .bool hasF, .string query, .string frag] 41) = W0 at *
  rw [hz0] at hbu
  have hA : Below (w.heap.size + 1) W0 (W0.alloc (.cells #[.pointer none, .slice none 0 0] 191)) := (Below.refl _ _).alloc (by omega) _
  have hzA : w.heap.size + 1 ≤ (W0.alloc (.cells #[.pointer none, .slice none 0 0] 191)).heap.size := by simp; omega
  generalize W0.alloc (.cells #[.pointer none, .slice none 0 0] 191) = W1 at *
  have HR := Lib.hid (hr.below hb0)
  have HBU := Lib.hid hbu
  clear hbu hr
  go_loopw [13] (fun i wr => ∃ k : Nat, k ≤ l.length ∧ i = .int .i64 k ∧ Lib.IsBuilder 191 5 (w.heap.size + 1) (w.heap.size + 1) (Lib.byteCells (pathB (l.take k))) wr ∧ Below (w.heap.size + 1) W0 wr) (fun i _ => l.length - (intOf i).toNat)
  case atStart => exact ⟨0, Nat.zero_le _, rfl, HBU.out, hA⟩
  case round =>
    obtain ⟨k, hk, rfl, hB, hb⟩ := hrel
    have hzr : w.heap.size + 1 ≤ wr.heap.size := by have := hb.size; omega
    by_cases hlt : k < l.length
    · obtain ⟨g, rfl, hgl, hc⟩ := HR.out.2 (by omega)
      have hcap := HR.out.1
      have hgw : g < w.heap.size + 1 := by omega
      have d0 : wr.cell? ⟨g, k, none⟩ = some (.string (l.getD k ByteArray.empty)) := (hb.cell (p := ⟨g, k, none⟩) hgw).trans (hc k hlt)
      have hpt := pathB_take l k hlt
      have hsn : pathB (l.take (k + 1)) = pathB (l.take k) ++ 47 :: (l.getD k ByteArray.empty).data.toList := by
        rw [List.take_succ_eq_append_getElem hlt, pathB_snoc, List.getD_eq_getElem?_getD, List.getElem?_eq_getElem hlt]
        rfl
      have HSN := Lib.hid hsn
      clear hsn hc
      generalize pathB (l.take k) = done at *
      obtain ⟨x, hx⟩ : ∃ x, x = l.getD k ByteArray.empty := ⟨_, rfl⟩
      rw [← hx] at d0 hpt
      have HX := Lib.hid hx
      clear hx
      have hxs : x.size + 1 ≤ 9223372036854775807 := by omega
      have hlt' : (k : Int) < (l.length : Int) := by omega
      have hsl := fun s hs => wstring_c (w.heap.size + 1) (w.heap.size + 1) (Lib.byteCells done) s wr hB hs hzr
      go_wp2_with fail
      refine (hsl _ ?_).mono ?_
      · rw [Lib.byteCells_length]
        show done.length + ((⟨#[47]⟩ : ByteArray) ++ x).size ≤ _
        rw [ByteArray.size_append]
        show done.length + (1 + x.size) ≤ _
        omega
      rintro e w1 ⟨rfl, hB1, hb1⟩
      clear hsl
      go_wp2
      refine ⟨⟨k + 1, by omega, by go_num, .inr ?_, hb.trans hb1⟩, by simp [intOf]; omega⟩
      rw [HSN.out, byteCells_append, ← HX.out]
      exact hB1
    · obtain rfl : k = l.length := by omega
      rw [List.take_length] at hB
      go_wp2_with fail
      refine (Tryz.Builder_String_any (w.heap.size + 1) (w.heap.size + 1) _ _ hB hzr).mono ?_
      rintro e w3 ⟨rfl, hb3⟩
      have hC3 := hb0.trans ((hb.trans hb3).mono (Nat.le_succ _))
      go_wp2
      go_ret
      exact ⟨rfl, hC3⟩
end Go.Proofs.YtibgiohijknmbaaGreatDoor
