/-
  table: New, find, Get, Put, Handles, Del, over entries in memory.
-/
import Derived.Test.YtibgiohijknmbaaGreatDoorBlob
namespace Go.Proofs.YtibgiohijknmbaaGreatDoor
open Go.RowKit
set_option linter.unusedVariables false
set_option linter.unusedSimpArgs false

/-- A table's entries: a handle, and the block of what it tells. -/
abbrev Ents := List (Int × Nat)
def entV (es : Ents) : List Value := es.flatMap fun e => [.int .i64 e.1, .pointer (some ⟨e.2, 0, none⟩)]
theorem entV_length (es : Ents) : (entV es).length = es.length * 2 := by
  induction es with
  | nil => rfl
  | cons a t ih =>
    have : entV (a :: t) = [.int .i64 a.1, .pointer (some ⟨a.2, 0, none⟩)] ++ entV t := rfl
    rw [this, List.length_append, ih, List.length_cons]
    simp
    omega
theorem entV_get (es : Ents) (d : Int × Nat) : ∀ j, j < es.length → (entV es)[j * 2]? = some (.int .i64 (es.getD j d).1) ∧ (entV es)[j * 2 + 1]? = some (.pointer (some ⟨(es.getD j d).2, 0, none⟩)) := by
  induction es with
  | nil => intro j hj; exact absurd hj (Nat.not_lt_zero _)
  | cons a t ih =>
    intro j hj
    have e : entV (a :: t) = [.int .i64 a.1, .pointer (some ⟨a.2, 0, none⟩)] ++ entV t := rfl
    rw [e]
    cases j with
    | zero => exact ⟨rfl, rfl⟩
    | succ j =>
      have h := ih j (by simpa using hj)
      have e1 : (j + 1) * 2 = (j * 2) + 2 := by omega
      rw [e1]
      simp only [List.cons_append, List.nil_append, List.getElem?_cons_succ, List.getD_cons_succ]
      exact h
def RowE (w : World) (B : Nat) (lv : Value) (es : Ents) : Prop := w.ownsRow B 124 2 lv es.length (entV es)
def firstAt (p : Int × Nat → Bool) (es : Ents) : Int := if es.findIdx p < es.length then (es.findIdx p : Int) else -1

set_option maxRecDepth 100000 in
set_option maxHeartbeats 1000000 in
theorem idx_c (B : Nat) (lv : Value) (es : Ents) (hb : Nat) (h : Int) (w : World) (ho : RowE w B lv es) (hh : w.cell? ⟨hb, 0, none⟩ = some (.int .i64 h)) (hlt : hb < w.heap.size) (hn : es.length ≤ 1000000) :
    Calls Tryz.prog 116 #[lv, .func (.func 117) #[] #[.pointer (some ⟨hb, 0, none⟩)]] w fun e w' => e = .returned (.int .i64 (firstAt (fun e => e.1 == h) es)) ∧ Below w.heap.size w w' := by
  rcases ho.2 with ⟨hv, h0⟩ | ⟨g, cap, cur, hv, hg, hhp, hnc, hm, hs, ht⟩
  · subst hv
    have : es = [] := List.length_eq_zero_iff.1 h0
    subst this
    go_enter Tryz.func116, Tryz.ntmps116
    go_wp2
    refine wp_loop_rounds 1 ?_
    rw [rounds_succ]
    go_wp2
    go_ret
    exact ⟨rfl, Below.refl _ _⟩
  · subst hv
    have hgl : g < w.heap.size := (Array.getElem?_eq_some_iff.1 hhp).1
    have hcell : ∀ j, j < es.length → w.cell? ⟨g, j * 2, none⟩ = some (.int .i64 (es.getD j (0, 0)).1) ∧ w.cell? ⟨g, j * 2 + 1, none⟩ = some (.pointer (some ⟨(es.getD j (0, 0)).2, 0, none⟩)) := fun j hj => by
      obtain ⟨e1, e2⟩ := entV_get es (0, 0) j hj
      have c1 := ho.cells (g := g) rfl _ _ e1
      have c2 := ho.cells (g := g) rfl _ _ e2
      rw [addr_add0] at c1 c2
      exact ⟨c1, c2⟩
    have HCE := Lib.hid hcell
    clear hcell ho hs ht hhp
    go_enter Tryz.func116, Tryz.ntmps116
    go_wp2
    go_loopw [8] (fun i wr => ∃ k : Nat, k ≤ es.length ∧ i = .int .i64 k ∧ Below w.heap.size w wr ∧ Hid (∀ j, j < k → ((es.getD j (0, 0)).1 == h) = false)) (fun i _ => es.length - (intOf i).toNat)
    case atStart => exact ⟨0, Nat.zero_le _, rfl, Below.refl _ _, fun j hj => absurd hj (Nat.not_lt_zero _)⟩
    case round =>
      obtain ⟨k, hk, rfl, hbl, hall⟩ := hrel
      by_cases hlk : k < es.length
      · obtain ⟨c1, c2⟩ := HCE.out k hlk
        have d1 : wr.cell? ⟨g, k * 2, none⟩ = some (.int .i64 (es.getD k (0, 0)).1) := (hbl.cell (p := ⟨g, k * 2, none⟩) hgl).trans c1
        have d2 : wr.cell? ⟨g, k * 2 + 1, none⟩ = some (.pointer (some ⟨(es.getD k (0, 0)).2, 0, none⟩)) := (hbl.cell (p := ⟨g, k * 2 + 1, none⟩) hgl).trans c2
        have d3 : wr.cell? ⟨hb, 0, none⟩ = some (.int .i64 h) := (hbl.cell (p := ⟨hb, 0, none⟩) hlt).trans hh
        have hl2 : hb < wr.heap.size := Nat.lt_of_lt_of_le hlt hbl.size
        have hl3 : g < wr.heap.size := Nat.lt_of_lt_of_le hgl hbl.size
        have hal : Below w.heap.size w (wr.alloc (.cells #[.int .i64 (es.getD k (0, 0)).1, .pointer (some ⟨(es.getD k (0, 0)).2, 0, none⟩)] 124)) := hbl.alloc hbl.size _
        clear c1 c2
        obtain ⟨x, hx⟩ : ∃ x, x = (es.getD k (0, 0)).1 := ⟨_, rfl⟩
        obtain ⟨y, hy⟩ : ∃ y, y = (es.getD k (0, 0)).2 := ⟨_, rfl⟩
        rw [← hx, ← hy] at hal
        rw [← hx] at d1
        rw [← hy] at d2
        have HX := Lib.hid hx
        clear hx hy
        by_cases hxh : x = h
        · subst hxh
          have hfi : es.findIdx (fun e => e.1 == x) = k := by
            refine (List.findIdx_eq hlk).2 ⟨?_, fun j hj => ?_⟩
            · have := HX.out
              rw [List.getD_eq_getElem?_getD, List.getElem?_eq_getElem hlk] at this
              simp [this]
            · have := hall.out j hj
              rw [List.getD_eq_getElem?_getD, List.getElem?_eq_getElem (by omega)] at this
              simpa using this
          have hres : firstAt (fun e => e.1 == x) es = (k : Int) := by unfold firstAt; rw [hfi, if_pos hlk]
          have HRES := Lib.hid hres
          clear hfi hres
          go_wp2
          go_ret
          exact ⟨ret_i HRES.out.symm, hal⟩
        · have hall2 : Hid (∀ j, j < k + 1 → ((es.getD j (0, 0)).1 == h) = false) := fun j hj => by
            by_cases e : j = k
            · subst e; rw [← HX.out]; simpa using hxh
            · exact hall.out j (by omega)
          have hxh2 : (x == h) = false := by simpa using hxh
          clear hxh
          go_wp2
          exact ⟨⟨k + 1, by omega, by go_num, hal, hall2⟩, by simp [intOf]; omega⟩
      · obtain rfl : k = es.length := by omega
        have hfi : es.findIdx (fun e => e.1 == h) = es.length := by
          refine List.findIdx_eq_length.2 fun e he => ?_
          obtain ⟨j, hj, rfl⟩ := List.getElem_of_mem he
          have := hall.out j hj
          rw [List.getD_eq_getElem?_getD, List.getElem?_eq_getElem hj] at this
          simpa using this
        have hres : firstAt (fun e => e.1 == h) es = -1 := by unfold firstAt; rw [hfi, if_neg (Nat.lt_irrefl _)]
        have HRES := Lib.hid hres
        clear hfi hres
        go_wp2
        go_ret
        exact ⟨ret_i HRES.out.symm, hbl⟩
end Go.Proofs.YtibgiohijknmbaaGreatDoor
