/-
  table.Handles; stack.Bytes.
-/
import Derived.Test.YtibgiohijknmbaaGreatDoorTab2
namespace Go.Proofs.YtibgiohijknmbaaGreatDoor
open Go.RowKit
set_option linter.unusedVariables false
set_option linter.unusedSimpArgs false

def hanV (es : Ents) : List Value := es.map fun e => .int .i64 e.1
theorem linfo : (Tryz.prog.info? 2).map (fun i => (i.zero, i.size, i.bytes)) = some (some (.int .i64 0), 1, 8) := by kernel_rfl
set_option maxRecDepth 100000 in
set_option maxHeartbeats 1000000 in
theorem handles_c (B tb : Nat) (es : Ents) (room last : Int) (w : World) (hT : TabAt w B tb es room last) :
    Calls Tryz.prog 38 #[.pointer (some ⟨tb, 0, none⟩)] w fun e w' => ∃ v, e = .returned v ∧ w'.ownsRow w.heap.size 2 1 v es.length (hanV es) ∧ Below w.heap.size w w' := by
  have hlt := hT.lt
  obtain ⟨_, hn, lv, hv, ho⟩ := hT
  obtain ⟨i0, hi, hz0, hz1, hz2⟩ := info_parts linfo
  have c0 : w.cell? ⟨tb, 0, none⟩ = some lv := Lib.cell_of_heap hv 0
  clear hv
  have hdata : ∃ a cap, lv = .slice a es.length cap ∧ Hid (es.length ≤ cap ∧ ∀ j, j < es.length → ∃ g, a = some ⟨g, 0, none⟩ ∧ g < w.heap.size ∧ w.cell? ⟨g, j * 2, none⟩ = some (.int .i64 (es.getD j (0, 0)).1) ∧ w.cell? ⟨g, j * 2 + 1, none⟩ = some (.pointer (some ⟨(es.getD j (0, 0)).2, 0, none⟩))) := by
    rcases ho.2 with ⟨hlv, h0⟩ | ⟨g, cap, cur, hlv, hg, hhp, hnc, hm, hs, ht⟩
    · exact ⟨none, 0, by rw [hlv, h0], by omega, fun j hj => by omega⟩
    · refine ⟨some ⟨g, 0, none⟩, cap, hlv, hnc, fun j hj => ⟨g, rfl, (Array.getElem?_eq_some_iff.1 hhp).1, ?_⟩⟩
      obtain ⟨e1, e2⟩ := entV_get es (0, 0) j hj
      have c1 := ho.cells (g := g) (by rw [hlv]; rfl) _ _ e1
      have c2 := ho.cells (g := g) (by rw [hlv]; rfl) _ _ e2
      rw [addr_add0] at c1 c2
      exact ⟨c1, c2⟩
  obtain ⟨a, cap, rfl, HD⟩ := hdata
  clear ho
  go_enter Tryz.func38, Tryz.ntmps38
  go_wp2
  go_loopw [3, 13] (fun out i wr => ∃ k : Nat, k ≤ es.length ∧ i = .int .i64 k ∧ wr.ownsRow w.heap.size 2 1 out (es.take k).length (hanV (es.take k)) ∧ Below w.heap.size w wr) (fun _ i _ => es.length - (intOf i).toNat)
  case atStart => exact ⟨0, Nat.zero_le _, rfl, World.ownsRow_nil _ _ _ _, Below.refl _ _⟩
  case round =>
    obtain ⟨k, hk, rfl, hown, hbl⟩ := hrel
    by_cases hlk : k < es.length
    · obtain ⟨g, rfl, hgl, c1, c2⟩ := HD.out.2 k hlk
      have hcap := HD.out.1
      have d1 : wr.cell? ⟨g, k * 2, none⟩ = some (.int .i64 (es.getD k (0, 0)).1) := (hbl.cell (p := ⟨g, k * 2, none⟩) hgl).trans c1
      have d2 : wr.cell? ⟨g, k * 2 + 1, none⟩ = some (.pointer (some ⟨(es.getD k (0, 0)).2, 0, none⟩)) := (hbl.cell (p := ⟨g, k * 2 + 1, none⟩) hgl).trans c2
      have hl3 : g < wr.heap.size := Nat.lt_of_lt_of_le hgl hbl.size
      have hts : es.take (k + 1) = es.take k ++ [es.getD k (0, 0)] := by
        rw [List.take_succ_eq_append_getElem hlk, List.getD_eq_getElem?_getD, List.getElem?_eq_getElem hlk]
        rfl
      have HT := Lib.hid hts
      clear hts c1 c2
      obtain ⟨en, hen⟩ : ∃ en, en = es.getD k (0, 0) := ⟨_, rfl⟩
      rw [← hen] at d1 d2
      have HEN := Lib.hid hen
      clear hen
      have hlen : (es.take k).length = k := by rw [List.length_take]; omega
      rw [hlen] at hown
      have hown' := (hown.alloc (.cells #[.int .i64 en.1, .pointer (some ⟨en.2, 0, none⟩)] 124)).alloc (.cells #[.int .i64 en.1] 2)
      have hbl' := (hbl.alloc hbl.size (.cells #[.int .i64 en.1, .pointer (some ⟨en.2, 0, none⟩)] 124)).alloc (by simp; have := hbl.size; omega) (.cells #[.int .i64 en.1] 2)
      have HO := Lib.hid hown'
      clear hown hown' hlen
      go_wp2_with (at_builtin; refine wpList_append_own _ rfl _ _ 92 rfl w.heap.size 2 i0 (.int .i64 0) 1 8 Tryz.underlying92 hi hz0 hz1 hz2 rfl (by decide) _ k (hanV (es.take k)) rfl HO.out ⟨wr.heap.size + 1, 0, none⟩ 1 1 [.int .i64 en.1] rfl rfl ?c1 ?c2 ?c3 ?c4 ?c5 ?c6)
      case c1 =>
        intro j u hu
        cases j with
        | zero =>
          rw [addr_add0]
          have e := heap_last (wr.alloc (.cells #[.int .i64 en.1, .pointer (some ⟨en.2, 0, none⟩)] 124)) (.cells #[.int .i64 en.1] 2)
          rw [show (wr.alloc (.cells #[.int .i64 en.1, .pointer (some ⟨en.2, 0, none⟩)] 124)).heap.size = wr.heap.size + 1 by simp] at e
          rw [Lib.cell_of_heap e 0]
          exact hu
        | succ j => simp at hu
      case c2 => intro u hu; rw [List.mem_singleton] at hu; subst hu; rfl
      case c3 => unfold maxLen; omega
      case c4 => omega
      case c5 => exact hbl'.size
      case c6 =>
        intro v' w1 hown1 hgr1 _
        have hb1 : Below w.heap.size w w1 := hbl'.grown hgr1 hbl'.size (fun q hq => (HO.out.lt q hq).1)
        have hown2 : w1.ownsRow w.heap.size 2 1 v' (es.take (k + 1)).length (hanV (es.take (k + 1))) := by
          have hl : (es.take (k + 1)).length = k + 1 := by rw [List.length_take]; omega
          rw [hl, HT.out, ← HEN.out]
          unfold hanV at *
          rw [List.map_append]
          exact hown1
        clear hown1 hgr1 HO HT hbl hbl'
        go_wp2
        exact ⟨⟨k + 1, by omega, by go_num, hown2, hb1⟩, by simp [intOf]; omega⟩
    · obtain rfl : k = es.length := by omega
      rw [List.take_length] at hown
      go_wp2
      go_ret
      exact ⟨_, rfl, hown, hbl⟩
end Go.Proofs.YtibgiohijknmbaaGreatDoor
