/-
  parse.scheme: a text's scheme, and what stands behind it.
-/
import Derived.Test.YtibgiohijknmbaaGreatDoorUtf
import Derived.Test.YtibgiohijknmbaaGreatDoorShelf
namespace Go.Proofs.YtibgiohijknmbaaGreatDoor
open Go.RowKit
set_option linter.unusedVariables false
set_option linter.unusedSimpArgs false

def schemeByte (c : UInt8) : Bool := letterB (c.toNat : Int) || digitB (c.toNat : Int) || decide (0 ≤ Lib.indexByte [43, 45, 46] c)
def schemeF (s : List UInt8) : List UInt8 × List UInt8 × Bool :=
  if (Lib.cut s [58]).2.2 = false ∨ (Lib.cut s [58]).1 = [] ∨ letterB (((Lib.cut s [58]).1.getD 0 0).toNat : Int) = false ∨ (Lib.cut s [58]).1.all schemeByte = false then ([], s, false)
  else (lowerL (Lib.cut s [58]).1, (Lib.cut s [58]).2.1, true)

theorem cut_le (l m : List UInt8) : (Lib.cut l m).1.length ≤ l.length := by
  unfold Lib.cut
  split
  · rw [List.length_take]; omega
  · exact Nat.le_refl _

set_option maxRecDepth 100000 in
set_option maxHeartbeats 2000000 in
theorem scheme_c (s : ByteArray) (m : Int) (w : World) (hm : w.cell? ⟨0, 0, none⟩ = some (.int .i64 m)) (hs : s.size ≤ 1073741824) :
    Calls Tryz.prog 56 #[.string s] w fun e w' => e = .returned (.tuple #[.string ⟨(schemeF s.data.toList).1.toArray⟩, .string ⟨(schemeF s.data.toList).2.1.toArray⟩, .bool (schemeF s.data.toList).2.2]) ∧ Below w.heap.size w w' := by
  have hcut := Tryz.strings_Cut s ⟨#[58]⟩ m w (by omega) hm
  have hd : ∀ n, Below w.heap.size w (w.drewN n) := fun n => ⟨rfl, rfl, rfl, Nat.le_refl _, fun _ _ => rfl⟩
  have e58 : (⟨#[58]⟩ : ByteArray).data.toList = [58] := rfl
  rw [e58] at hcut
  unfold schemeF
  have hsize := cut_le s.data.toList [58]
  have sz : s.data.toList.length = s.size := by rw [Array.length_toList]; rfl
  rw [sz] at hsize
  clear sz
  generalize (Lib.cut s.data.toList [58]) = cc at *
  obtain ⟨name, rest, ok⟩ := cc
  simp only at hcut ⊢
  by_cases hok : ok = false
  · subst hok
    simp only [true_or, if_true]
    go_enter Tryz.func56, Tryz.ntmps56
    go_wp2_with (go_at_call 55; refine hcut.mono ?_; rintro e w1 ⟨rfl, n1, rfl⟩)
    go_ret3
    exact ⟨rfl, hd _⟩
  · obtain rfl : ok = true := by cases ok <;> simp_all
    by_cases hn : name = []
    · subst hn
      simp only [true_or, or_true, if_true]
      go_enter Tryz.func56, Tryz.ntmps56
      go_wp2_with (go_at_call 55; refine hcut.mono ?_; rintro e w1 ⟨rfl, n1, rfl⟩)
      go_ret3
      exact ⟨rfl, hd _⟩
    · have h0 : 0 < name.length := by cases name with | nil => exact absurd rfl hn | cons _ _ => simp
      have hname : name = (⟨name.toArray⟩ : ByteArray).data.toList := rfl
      have hsn : (⟨name.toArray⟩ : ByteArray).size = name.length := by show name.toArray.size = _; simp
      generalize (⟨name.toArray⟩ : ByteArray) = nb at *
      rw [← hsn] at h0 hsize
      have hget : ∀ (k : Nat) (h : k < nb.size), ((nb[k]'h).toNat : Int) = sAt nb k := fun k h => by
        unfold sAt
        rw [List.getD_eq_getElem?_getD, List.getElem?_eq_getElem (by rw [Array.length_toList]; exact h)]
        rfl
      have hn0 : ¬ nb = ⟨#[]⟩ := by intro h; rw [h] at h0; exact absurd h0 (by decide)
      have hemp : nb.toList.isEmpty = false := by
        rw [ByteArray.toList_eq]
        cases hl : nb.data.toList with
        | nil =>
          have : nb.data.toList.length = 0 := by rw [hl]; rfl
          rw [Array.length_toList] at this
          exact absurd h0 (by show ¬ 0 < nb.data.size; omega)
        | cons _ _ => rfl
      subst hname
      clear hsn hn
      have hlt0 : ((nb.data.toList.getD 0 0).toNat : Int) = sAt nb 0 := rfl
      rw [hlt0]
      clear hlt0
      by_cases hlet : letterB (sAt nb 0) = false
      · simp only [hlet, true_or, or_true, if_true]
        go_enter Tryz.func56, Tryz.ntmps56
        go_wp2_with (go_at_call 55; refine hcut.mono ?_; rintro e w1 ⟨rfl, n1, rfl⟩)
        refine (letter_c _ _).mono ?_
        rintro e w2 ⟨rfl, rfl⟩
        rw [hlet]
        go_wp2
        go_ret3
        exact ⟨rfl, hd _⟩
      · have hlet' : letterB (sAt nb 0) = true := by cases h : letterB (sAt nb 0) <;> simp_all
        have hne : nb.data.toList ≠ [] := by
          intro h
          have : nb.data.toList.length = 0 := by rw [h]; rfl
          rw [Array.length_toList] at this
          exact absurd h0 (by show ¬ 0 < nb.data.size; omega)
        have hres : (if true = false ∨ nb.data.toList = [] ∨ letterB (sAt nb 0) = false ∨ nb.data.toList.all schemeByte = false then (([], s.data.toList, false) : List UInt8 × List UInt8 × Bool) else (lowerL nb.data.toList, rest, true)) = if nb.data.toList.all schemeByte = false then ([], s.data.toList, false) else (lowerL nb.data.toList, rest, true) := by simp [hne, hlet']
        rw [hres]
        clear hres
        generalize hres : (if nb.data.toList.all schemeByte = false then (([], s.data.toList, false) : List UInt8 × List UInt8 × Bool) else (lowerL nb.data.toList, rest, true)) = res
        have HR : Hid ((if nb.data.toList.all schemeByte = false then (([], s.data.toList, false) : List UInt8 × List UInt8 × Bool) else (lowerL nb.data.toList, rest, true)) = res) := hres
        clear hres hne
        go_enter Tryz.func56, Tryz.ntmps56
        go_wp2_with (go_at_call 55; refine hcut.mono ?_; rintro e w1 ⟨rfl, n1, rfl⟩)
        refine (letter_c _ _).mono ?_
        rintro e w2 ⟨rfl, rfl⟩
        rw [hlet']
        go_wp2
        have HB : Hid (∀ k : Nat, k < nb.size → ((nb.data.toList.getD k 0).toNat : Int) = sAt nb k) := fun k _ => rfl
        go_loopw [31] (fun i wr => ∃ k : Nat, k ≤ nb.size ∧ i = .int .i64 k ∧ wr = w.drewN n1 ∧ Hid (∀ j, j < k → schemeByte (nb.data.toList.getD j 0) = true)) (fun i _ => nb.size - (intOf i).toNat)
        case atStart => exact ⟨0, Nat.zero_le _, rfl, rfl, fun j hj => absurd hj (Nat.not_lt_zero _)⟩
        case round =>
          obtain ⟨k, hk, rfl, rfl, hall⟩ := hrel
          by_cases hlt : k < nb.size
          · have hlt' : (k : Int) < (nb.size : Int) := by omega
            have hib := fun W => Tryz.strings_IndexByte ⟨#[43, 45, 46]⟩ (sAt nb k) W
            have hbyte : schemeByte (nb.data.toList.getD k 0) = (letterB (sAt nb k) || digitB (sAt nb k) || decide (0 ≤ Lib.indexByte [43, 45, 46] (nb.data.toList.getD k 0))) := rfl
            by_cases hL : letterB (sAt nb k) = true
            · have hall2 : Hid (∀ j, j < k + 1 → schemeByte (nb.data.toList.getD j 0) = true) := fun j hj => by
                by_cases e : j = k
                · subst e; rw [hbyte, hL]; rfl
                · exact hall.out j (by omega)
              clear hbyte
              go_wp2_with (go_at_call 101; refine (letter_c _ _).mono ?_; rintro e w2 ⟨rfl, rfl⟩; rw [hL])
              exact ⟨⟨k + 1, by omega, by go_num, trivial, hall2⟩, by simp [intOf]; omega⟩
            · have hL' : letterB (sAt nb k) = false := by cases h : letterB (sAt nb k) <;> simp_all
              by_cases hD : digitB (sAt nb k) = true
              · have hall2 : Hid (∀ j, j < k + 1 → schemeByte (nb.data.toList.getD j 0) = true) := fun j hj => by
                  by_cases e : j = k
                  · subst e; rw [hbyte, hD, hL']; rfl
                  · exact hall.out j (by omega)
                clear hbyte
                go_wp2_with (first | (go_at_call 101; refine (letter_c _ _).mono ?_; rintro e w2 ⟨rfl, rfl⟩; rw [hL']) | (go_at_call 102; refine (digit_c _ _).mono ?_; rintro e w2 ⟨rfl, rfl⟩; rw [hD]))
                exact ⟨⟨k + 1, by omega, by go_num, trivial, hall2⟩, by simp [intOf]; omega⟩
              · have hD' : digitB (sAt nb k) = false := by cases h : digitB (sAt nb k) <;> simp_all
                have hu : (sAt nb k).toNat.toUInt8 = nb.data.toList.getD k 0 := by unfold sAt; simp
                have hib := fun W => Tryz.strings_IndexByte ⟨#[43, 45, 46]⟩ (sAt nb k) W
                rw [hu] at hib
                have e3 : (⟨#[43, 45, 46]⟩ : ByteArray).data.toList = [43, 45, 46] := rfl
                rw [e3] at hib
                rw [hL', hD'] at hbyte
                simp only [Bool.false_or] at hbyte
                clear e3 hu
                by_cases hI : 0 ≤ Lib.indexByte [43, 45, 46] (nb.data.toList.getD k 0)
                · have hall2 : Hid (∀ j, j < k + 1 → schemeByte (nb.data.toList.getD j 0) = true) := fun j hj => by
                    by_cases e : j = k
                    · subst e; rw [hbyte]; simpa using hI
                    · exact hall.out j (by omega)
                  clear hbyte
                  generalize Lib.indexByte [43, 45, 46] (nb.data.toList.getD k 0) = ib at *
                  have hI' : ¬ ib < 0 := by omega
                  go_wp2_with (first | (go_at_call 101; refine (letter_c _ _).mono ?_; rintro e w2 ⟨rfl, rfl⟩; rw [hL']) | (go_at_call 102; refine (digit_c _ _).mono ?_; rintro e w2 ⟨rfl, rfl⟩; rw [hD']) | (go_at_call 103; refine (hib _).mono ?_; rintro e w2 ⟨rfl, rfl⟩))
                  exact ⟨⟨k + 1, by omega, by go_num, trivial, hall2⟩, by simp [intOf]; omega⟩
                · have hno : nb.data.toList.all schemeByte = false := by
                    rw [List.all_eq_false]
                    have hkl : k < nb.data.toList.length := by rw [Array.length_toList]; exact hlt
                    refine ⟨nb.data.toList.getD k 0, ?_, ?_⟩
                    · rw [List.getD_eq_getElem?_getD, List.getElem?_eq_getElem hkl]; exact List.getElem_mem _
                    · rw [hbyte]; simpa using hI
                  clear hbyte
                  generalize Lib.indexByte [43, 45, 46] (nb.data.toList.getD k 0) = ib at *
                  have hI' : ib < 0 := by omega
                  go_wp2_with (first | (go_at_call 101; refine (letter_c _ _).mono ?_; rintro e w2 ⟨rfl, rfl⟩; rw [hL']) | (go_at_call 102; refine (digit_c _ _).mono ?_; rintro e w2 ⟨rfl, rfl⟩; rw [hD']) | (go_at_call 103; refine (hib _).mono ?_; rintro e w2 ⟨rfl, rfl⟩))
                  go_ret3
                  have hr := HR.out
                  rw [hno] at hr
                  subst hr
                  exact ⟨rfl, hd _⟩
          · have hyes : nb.data.toList.all schemeByte = true := by
              rw [List.all_eq_true]
              intro x hx
              obtain ⟨j, hj, rfl⟩ := List.getElem_of_mem hx
              have hj' : j < nb.size := by rw [Array.length_toList] at hj; exact hj
              have := hall.out j (by omega)
              rwa [List.getD_eq_getElem?_getD, List.getElem?_eq_getElem hj] at this
            have hlt' : ¬ (k : Int) < (nb.size : Int) := by omega
            go_wp2_with (go_at_call 104; refine (lower_c nb _ (by omega)).mono ?_; rintro e w2 ⟨rfl, hb2⟩)
            go_ret3
            have hr := HR.out
            rw [hyes] at hr
            subst hr
            exact ⟨rfl, (hd n1).trans hb2⟩
end Go.Proofs.YtibgiohijknmbaaGreatDoor
