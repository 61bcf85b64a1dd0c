/-
  utf.Encode: characters' bytes.
-/
import Derived.Test.YtibgiohijknmbaaGreatDoorDecode
import Derived.Test.YtibgiohijknmbaaGreatDoorShelf
import Derived.Lib.RuneBytes
namespace Go.Proofs.YtibgiohijknmbaaGreatDoor
open Go.RowKit
set_option linter.unusedVariables false
set_option linter.unusedSimpArgs false

/-- A value that is a slice of runes. -/
def RunesAt (w : World) (v : Value) (ds : List Int) : Prop :=
  ∃ a c, v = .slice a ds.length c ∧ ds.length ≤ c ∧ (0 < ds.length → ∃ g, a = some ⟨g, 0, none⟩ ∧ g < w.heap.size ∧ ∀ j, j < ds.length → w.cell? ⟨g, j, none⟩ = some (.int .i32 (ds.getD j 0)))
theorem runes_of_own {w : World} {base : Nat} {e : TypeId} {v : Value} {ds : List Int} (h : w.ownsRow base e 1 v ds.length (runes ds)) : RunesAt w v ds := by
  rcases h.2 with ⟨rfl, h0⟩ | ⟨g, cap, cur, rfl, hb, hh, hn, hm, hs, ht⟩
  · exact ⟨none, 0, by rw [h0], by omega, fun hp => absurd hp (by omega)⟩
  · refine ⟨_, cap, rfl, hn, fun hp => ⟨g, rfl, (h.lt g rfl).2, fun j hj => ?_⟩⟩
    have := h.cells (g := g) rfl j (.int .i32 (ds.getD j 0)) (by simp [runes, List.getD_eq_getElem?_getD, List.getElem?_eq_getElem hj])
    rwa [addr_add0] at this
def runeB (r : Int) : List UInt8 := Lib.encodeRune r
def encF (ds : List Int) : List UInt8 := ds.flatMap runeB
theorem encF_snoc (ds : List Int) (r : Int) : encF (ds ++ [r]) = encF ds ++ runeB r := by simp [encF]
def byteV (l : List UInt8) : List Value := l.map fun b => .int .u8 (b.toNat : Int)
theorem encodeRuneZ_range (r : Int) : ∀ x ∈ Lib.encodeRuneZ r, 0 ≤ x ∧ x ≤ 255 := by
  unfold Lib.encodeRuneZ
  (repeat' split) <;> simp <;> omega
theorem encodeRuneZ_length (r : Int) : 1 ≤ (Lib.encodeRuneZ r).length ∧ (Lib.encodeRuneZ r).length ≤ 4 := by
  unfold Lib.encodeRuneZ
  (repeat' split) <;> simp
theorem runeCells_eq (r : Int) : Lib.runeCells r = byteV (runeB r) := by
  unfold Lib.runeCells byteV runeB Lib.encodeRune
  rw [List.map_map]
  refine List.map_congr_left fun x hx => ?_
  have := encodeRuneZ_range r x hx
  simp only [Function.comp]
  congr 1
  simp
  omega
theorem runeB_length (r : Int) : 1 ≤ (runeB r).length ∧ (runeB r).length ≤ 4 := by
  have := encodeRuneZ_length r
  unfold runeB Lib.encodeRune
  rw [List.length_map]
  exact this
theorem encF_length (ds : List Int) : (encF ds).length ≤ 4 * ds.length := by
  induction ds with
  | nil => simp [encF]
  | cons r t ih =>
    have := (runeB_length r).2
    have e : encF (r :: t) = runeB r ++ encF t := by simp [encF]
    rw [e, List.length_append, List.length_cons]
    omega
theorem byteV_append (a b : List UInt8) : byteV (a ++ b) = byteV a ++ byteV b := by simp [byteV]
theorem byteV_length (a : List UInt8) : (byteV a).length = a.length := by simp [byteV]

set_option maxRecDepth 100000 in
set_option maxHeartbeats 1000000 in
theorem encode_c (ds : List Int) (v : Value) (w : World) (hr : ∀ r ∈ ds, -2147483648 ≤ r ∧ r ≤ 2147483647) (hlen : ds.length ≤ 4294967296) (hv : RunesAt w v ds) :
    Calls Tryz.prog 94 #[v] w fun e w' => ∃ u, e = .returned u ∧ w'.ownsRow w.heap.size 5 1 u (encF ds).length (byteV (encF ds)) ∧ Below w.heap.size w w' := by
  obtain ⟨a, c, rfl, hc, hcell⟩ := hv
  have HR : Hid (∀ r ∈ ds, -2147483648 ≤ r ∧ r ≤ 2147483647) := hr
  have HC : Hid (0 < ds.length → ∃ g, a = some ⟨g, 0, none⟩ ∧ g < w.heap.size ∧ ∀ j, j < ds.length → w.cell? ⟨g, j, none⟩ = some (.int .i32 (ds.getD j 0))) := hcell
  clear hr hcell
  go_enter Tryz.func94, Tryz.ntmps94
  go_wp2
  go_loopw [3, 8] (fun out i wr => ∃ (k : Nat), i = .int .i64 k ∧ k ≤ ds.length ∧ wr.ownsRow w.heap.size 5 1 out (encF (ds.take k)).length (byteV (encF (ds.take k))) ∧ Below w.heap.size w wr) (fun _ i _ => ds.length - (intOf i).toNat)
  case atStart => exact ⟨0, rfl, Nat.zero_le _, ⟨by simp [encF, byteV], .inl ⟨rfl, by simp [encF]⟩⟩, Below.refl _ _⟩
  case round =>
    obtain ⟨k, rfl, hk, hown, hbl⟩ := hrel
    by_cases hlt : k < ds.length
    · obtain ⟨g, rfl, hg, hce⟩ := HC.out (by omega)
      have hck : wr.cell? ⟨g, k, none⟩ = some (.int .i32 (ds.getD k 0)) := (hbl.cell (p := ⟨g, k, none⟩) hg).trans (hce k hlt)
      have hmem : ds.getD k 0 ∈ ds := by
        rw [List.getD_eq_getElem?_getD, List.getElem?_eq_getElem hlt]
        exact List.getElem_mem hlt
      obtain ⟨hr0, hr1⟩ := HR.out _ hmem
      have hts : ds.take (k + 1) = ds.take k ++ [ds.getD k 0] := by
        rw [List.take_succ_eq_append_getElem hlt, List.getD_eq_getElem?_getD, List.getElem?_eq_getElem hlt]
        rfl
      have hle := encF_length (ds.take k)
      have hlt2 : (ds.take k).length ≤ ds.length := by rw [List.length_take]; omega
      have HT : Hid (encF (ds.take (k + 1)) = encF (ds.take k) ++ runeB (ds.getD k 0)) := by show _ = _; rw [hts, encF_snoc]
      clear hts hce hmem
      generalize encF (ds.take k) = done at *
      generalize ds.getD k 0 = r at *
      go_wp2_with (go_at_call 153; refine (Tryz.utf8_AppendRune_plain w.heap.size _ done.length (byteV done) r hr0 hr1 _ hown (by omega) hbl.size).mono ?_)
      rintro e w1 ⟨v1, rfl, hown1, o, hgr⟩
      have hbl1 : Below w.heap.size w w1 := (hbl.alloc hbl.size o).grown hgr (by have := hbl.size; simp; omega) (fun q hq => (hown.lt q hq).1)
      have hown2 : w1.ownsRow w.heap.size 5 1 v1 (encF (ds.take (k + 1))).length (byteV (encF (ds.take (k + 1)))) := by
        rw [HT.out, byteV_append, List.length_append]
        rw [runeCells_eq, byteV_length] at hown1
        exact hown1
      clear hown1 hgr hown HT hck
      obtain ⟨ao, n1, c1, rfl⟩ : ∃ ao n1 c1, v1 = .slice ao n1 c1 := by
        rcases hown2.2 with ⟨hv, _⟩ | ⟨g, cap, cur, hv, _⟩
        · exact ⟨_, _, _, hv⟩
        · exact ⟨_, _, _, hv⟩
      go_wp2
      refine ⟨⟨k + 1, by go_num, by omega, hown2, hbl1⟩, by simp [intOf]; omega⟩
    · obtain rfl : k = ds.length := by omega
      rw [List.take_length] at hown
      go_wp2
      go_ret
      exact ⟨_, rfl, hown, hbl⟩
end Go.Proofs.YtibgiohijknmbaaGreatDoor
