/-
  strings.NewReplacer, (*Replacer).buildOnce.
-/
import Derived.Test.YtibgiohijknmbaaGreatDoorRepB
import Derived.Test.YtibgiohijknmbaaGreatDoorOnce
namespace Go.Proofs.YtibgiohijknmbaaGreatDoor
open Go.RowKit
set_option linter.unusedVariables false
set_option linter.unusedSimpArgs false

/-- A Replacer in block R that has not been built yet. -/
def RawAt (w : World) (R : Nat) (q : Int) (ps : Pairs) : Prop :=
  ∃ g c, w.heap[R]? = some (.cells #[.int .u32 0, .int .i32 q, .int .u32 0, .nilIface, .slice (some ⟨g, 0, none⟩) (2 * ps.length) c] 234 (0, 0)) ∧ 2 * ps.length ≤ c ∧ StrsAt w g (oldnew ps) ∧ g < w.heap.size ∧ g ≠ R

theorem own_same {w w' : World} {B n : Nat} {e : TypeId} {v : Value} {xs : List Value} (h : w.ownsRow B e 1 v n xs) (hs : ∀ k, v.ownBlock = some k → w'.heap[k]? = w.heap[k]?) : w'.ownsRow B e 1 v n xs := by
  obtain ⟨h1, h2⟩ := h
  refine ⟨h1, ?_⟩
  rcases h2 with h2 | ⟨g, cap, cur, rfl, hb, hh, r⟩
  · exact .inl h2
  · exact .inr ⟨g, cap, cur, rfl, hb, (hs g rfl).trans hh, r⟩
theorem own_typed {w : World} {B n : Nat} {e : TypeId} {v : Value} {xs : List Value} (h : w.ownsRow B e 1 v n xs) (k : Nat) (hk : v.ownBlock = some k) : ∃ cells, w.heap[k]? = some (.cells cells e (0, 0)) := by
  rcases h.2 with ⟨rfl, _⟩ | ⟨g, cap, cur, rfl, hb, hh, r⟩
  · simp [Value.ownBlock] at hk
  · have : g = k := by simpa [Value.ownBlock] using hk
    subst this
    exact ⟨cur, hh⟩
theorem RepAt.move {w w' : World} {B Q : Nat} {ps : Pairs} (h : RepAt w B Q ps) (e : ∀ (k : Nat) (cells : Array Value) (T : TypeId) (fz : Nat × Nat), w.heap[k]? = some (Obj.cells cells T fz) → T ≠ 234 → w'.heap[k]? = w.heap[k]?) : RepAt w' B Q ps := by
  obtain ⟨hB, cur, vT, h1, h2, h3, h4, h5⟩ := h
  refine ⟨hB, cur, vT, (e _ _ _ _ h1 (by decide)).trans h1, h2, fun c => ?_, h4, own_same h5 fun k hk => ?_⟩
  · obtain ⟨v, hv, hr⟩ := h3 c
    exact ⟨v, hv, cell_of_block hr fun g cells fz hg => e _ _ _ _ hg (by decide)⟩
  · obtain ⟨cells, hc⟩ := own_typed h5 k hk
    exact e _ _ _ _ hc (by decide)

set_option maxRecDepth 100000 in
set_option maxHeartbeats 1000000 in
theorem newrep_c (ps : Pairs) (g c : Nat) (w : World) (hm : 1 ≤ ps.length) (hm2 : ps.length ≤ 256) (hst : StrsAt w g (oldnew ps)) (hg : g < w.heap.size) (hc : 2 * ps.length ≤ c) (hc2 : c ≤ 9223372036854775807) :
    Calls Tryz.prog 98 #[.slice (some ⟨g, 0, none⟩) (2 * ps.length) c] w fun e w' => ∃ R, e = .returned (.pointer (some ⟨R, 0, none⟩)) ∧ w.heap.size ≤ R ∧ RawAt w' R 0 ps ∧ Below w.heap.size w w' := by
  obtain ⟨i0, hi, hz0, hz1, hz2⟩ := info_parts sinfo
  have hl := oldnew_length ps
  have hmod : (2 * (ps.length : Int)) % 2 = 0 := by omega
  have hne : (((2 * (ps.length : Int)) % 2) == 1) = false := by rw [hmod]; rfl
  go_enter Tryz.func98, Tryz.ntmps98
  go_wp2_with (at_builtin; refine wpList_append_own _ rfl _ _ 39 rfl w.heap.size 9 i0 (.string ByteArray.empty) 1 16 Tryz.underlying39 hi hz0 hz1 hz2 rfl (by decide) (.slice none 0 0) 0 [] rfl ⟨rfl, .inl ⟨rfl, rfl⟩⟩ ⟨g, 0, none⟩ (2 * ps.length) c ((oldnew ps).map Value.string) rfl ?c0 ?c1 ?c2 ?c3 ?c4 ?c5 ?_)
  case c0 => rw [List.length_map, hl]; omega
  case c1 =>
    intro j u hj
    rw [List.getElem?_map] at hj
    obtain ⟨s, hs, rfl⟩ := Option.map_eq_some_iff.1 hj
    have hjl : j < (oldnew ps).length := (List.getElem?_eq_some_iff.1 hs).1
    rw [addr_add0, hst j hjl, List.getD_eq_getElem?_getD, hs]
    rfl
  case c2 => intro u hu; obtain ⟨s, _, rfl⟩ := List.mem_map.1 hu; rfl
  case c3 => unfold maxLen; omega
  case c4 => omega
  case c5 => omega
  intro v' w2 hown hgr _
  obtain ⟨g', c', cur, rfl, hb', hh', hn', hm', hs', ht'⟩ : ∃ g cap cur, v' = .slice (some ⟨g, 0, none⟩) (2 * ps.length) cap ∧ w.heap.size ≤ g ∧ w2.heap[g]? = some (.cells cur 9 (0, 0)) ∧ 2 * ps.length ≤ cap ∧ cap ≤ maxLen ∧ cur.size = cap * 1 ∧ cur.toList.take (2 * ps.length * 1) = (oldnew ps).map Value.string := by
    rcases hown.2 with ⟨_, h0⟩ | h
    · omega
    · simpa using h
  have hst2 : StrsAt w2 g' (oldnew ps) := fun j hj => by
    have h := hown.cells (g := g') rfl j (.string ((oldnew ps).getD j ByteArray.empty)) (by rw [List.getElem?_map, List.getElem?_eq_getElem hj, List.getD_eq_getElem?_getD, List.getElem?_eq_getElem hj]; rfl)
    rwa [addr_add0] at h
  have hgl : g' < w2.heap.size := (Array.getElem?_eq_some_iff.1 hh').1
  clear hown hh' ht' hs'
  go_wp2
  go_ret
  refine ⟨w2.heap.size, rfl, hgr.size, ⟨g', c', heap_last _ _, hn', fun j hj => ?_, by simp; omega, by omega⟩, ((Below.refl _ _).grown hgr (Nat.le_refl _) (by simp [Value.ownBlock])).alloc hgr.size _⟩
  rw [World.cell?_alloc_past _ _ _ hgl]
  exact hst2 j hj

set_option maxRecDepth 100000 in
set_option maxHeartbeats 1000000 in
theorem buildonce_c (ps : Pairs) (R : Nat) (w : World) (hm : 2 ≤ ps.length) (hm2 : ps.length ≤ 256) (hnot : ∃ i, i < ps.length ∧ (ps.getD i (0, [])).2.length ≠ 1) (hnd : (ps.map (·.1)).Nodup) (hlong : ∀ p ∈ ps, p.2.length ≤ 1000) (h : RawAt w R 1 ps) :
    Calls Tryz.prog 158 #[.pointer (some ⟨R, 0, none⟩)] w fun e w' => e = .returned (.tuple #[]) ∧ ∃ Q, w'.heap[R]? = some (.cells #[.int .u32 0, .int .i32 1, .int .u32 0, .iface 306 (.pointer (some ⟨Q, 0, none⟩)), .slice none 0 0] 234 (0, 0)) ∧ RepAt w' w.heap.size Q ps ∧ w.grownBy w' (some R) := by
  obtain ⟨g, c, hR, hc, hst, hg, hgR⟩ := h
  have hRlt : R < w.heap.size := (Array.getElem?_eq_some_iff.1 hR).1
  have hc4 : w.cell? ⟨R, 4, none⟩ = some (.slice (some ⟨g, 0, none⟩) (2 * ps.length) c) := by rw [Lib.cell_of_heap hR]; rfl
  have hb := rep_build ps R g c ps.length w rfl hm hm2 hc hc4 hst hg hnot hnd hlong
  clear hc4
  go_enter Tryz.func158, Tryz.ntmps158
  go_wp2_with (go_at_call 220; refine hb.mono ?_)
  rintro e w1 ⟨Q, rfl, hrep, hbl⟩
  have hR1 : w1.heap[R]? = some (.cells #[.int .u32 0, .int .i32 1, .int .u32 0, .nilIface, .slice (some ⟨g, 0, none⟩) (2 * ps.length) c] 234 (0, 0)) := (hbl.block R hRlt).trans hR
  have c3 : w1.cell? ⟨R, 3, none⟩ = some .nilIface := by rw [Lib.cell_of_heap hR1]; rfl
  have c4 : w1.cell? ⟨R, 4, none⟩ = some (.slice (some ⟨g, 0, none⟩) (2 * ps.length) c) := by rw [Lib.cell_of_heap hR1]; rfl
  have f3 : w1.frozen? ⟨R, 3, none⟩ = false := Lib.frozen_of_heap hR1 3
  have f4 : w1.frozen? ⟨R, 4, none⟩ = false := Lib.frozen_of_heap hR1 4
  go_wp2
  go_end0
  refine ⟨rfl, Q, ?_, ?_, ?_⟩
  · have := heap_setCell_same _ R 4 _ 234 (.slice none 0 0) (heap_setCell_same w1 R 3 _ 234 (.iface 306 (.pointer (some ⟨Q, 0, none⟩))) hR1)
    simpa using this
  · refine hrep.move fun k cells T fz hk hT => ?_
    have hkR : k ≠ R := by
      rintro rfl
      rw [hR1] at hk
      injection hk with hk
      injection hk with _ ht
      exact hT ht.symm
    rw [heap_setCell_other _ _ _ _ hkR, heap_setCell_other _ _ _ _ hkR]
  · refine ⟨hbl.os, hbl.tape, hbl.output, by rw [World.size_setCell, World.size_setCell]; exact hbl.size, fun k hk hne => ?_⟩
    have hkR : k ≠ R := fun h => hne (by rw [h])
    rw [heap_setCell_other _ _ _ _ hkR, heap_setCell_other _ _ _ _ hkR]
    exact hbl.block k hk
end Go.Proofs.YtibgiohijknmbaaGreatDoor
