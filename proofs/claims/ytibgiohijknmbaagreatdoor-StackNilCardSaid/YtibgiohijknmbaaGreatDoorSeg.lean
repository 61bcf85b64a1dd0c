/-
  posix.Segment: a component's segment.
-/
import Derived.Test.YtibgiohijknmbaaGreatDoorEsc
import Derived.Test.YtibgiohijknmbaaGreatDoorRepW
import Derived.Test.YtibgiohijknmbaaGreatDoorPState
namespace Go.Proofs.YtibgiohijknmbaaGreatDoor
open Go.RowKit
set_option linter.unusedVariables false
set_option linter.unusedSimpArgs false

def segPs : Pairs := [(92, [37, 53, 67]), (124, [37, 55, 67])]
def segL (l : List UInt8) : List UInt8 := repL segPs (escL 4 (Lib.replaceAll l [37] [37, 50, 53]))
theorem countB_le (s : ByteArray) (c : UInt8) : Lib.countB s ⟨#[c]⟩ ≤ s.size + 1 := by
  unfold Lib.countB
  refine Nat.le_trans (Lib.count_le _ _) ?_
  rw [Array.length_toList]
  exact Nat.le_refl _
theorem replaceK_le (c : UInt8) (new : List UInt8) : ∀ (k : Nat) (s : List UInt8), (Lib.replaceK [c] new k s).length ≤ s.length + k * new.length
  | 0, s => by simp [Lib.replaceK]
  | k + 1, s => by
    rw [Lib.replaceK]
    split
    · exact Nat.le_add_right _ _
    · have ih := replaceK_le c new k (s.drop ((Lib.index s [c]).toNat + [c].length))
      rw [List.length_append, List.length_append, List.length_take]
      rw [List.length_drop] at ih
      have e : (k + 1) * new.length = k * new.length + new.length := by rw [Nat.add_mul, Nat.one_mul]
      rw [e]
      omega
theorem segPs_nodup : (segPs.map (·.1)).Nodup := by decide
theorem replaceAll_le (l : List UInt8) : (Lib.replaceAll l [37] [37, 50, 53]).length ≤ 4 * l.length + 3 := by
  unfold Lib.replaceAll Lib.replace
  rw [if_neg (by decide)]
  have h := replaceK_le 37 [37, 50, 53] (Lib.replaceNum l [37] (-1)) l
  have e : Lib.replaceNum l [37] (-1) = Lib.count l [37] := by unfold Lib.replaceNum; rw [if_pos (Or.inl (by decide))]
  have h2 := Lib.count_le l [37]
  rw [e] at h
  have e3 : ([37, 50, 53] : List UInt8).length = 3 := rfl
  rw [e3] at h
  rw [e]
  omega

set_option maxRecDepth 100000 in
set_option maxHeartbeats 1000000 in
theorem segment_c (s : ByteArray) (m : Int) (w : World) (hm : w.cell? ⟨0, 0, none⟩ = some (.int .i64 m)) (hs : s.size ≤ 1000000) :
    Calls Tryz.prog 77 #[.string s] w fun e w' => e = .returned (.string ⟨(segL s.data.toList).toArray⟩) ∧ Below w.heap.size w w' := by
  have hra := Tryz.strings_ReplaceAll s ⟨#[37]⟩ ⟨#[37, 50, 53]⟩ m w (by omega) hm (by decide) (by have := countB_le s 37; have e3 : (⟨#[37, 50, 53]⟩ : ByteArray).size = 3 := rfl; rw [e3]; omega)
  have e1 : (⟨#[37]⟩ : ByteArray).data.toList = [37] := rfl
  have e2 : (⟨#[37, 50, 53]⟩ : ByteArray).data.toList = [37, 50, 53] := rfl
  rw [e1, e2] at hra
  have hle := replaceAll_le s.data.toList
  have sz : s.data.toList.length = s.size := by rw [Array.length_toList]; rfl
  rw [sz] at hle
  have hseg : segL s.data.toList = repL segPs (escL 4 (Lib.replaceAll s.data.toList [37] [37, 50, 53])) := rfl
  generalize segL s.data.toList = res at *
  generalize Lib.replaceAll s.data.toList [37] [37, 50, 53] = l1 at *
  have hz1 : (⟨l1.toArray⟩ : ByteArray).size = l1.length := by show l1.toArray.size = _; simp
  have hd1 : (⟨l1.toArray⟩ : ByteArray).data.toList = l1 := rfl
  generalize (⟨l1.toArray⟩ : ByteArray) = s1 at *
  rw [← hd1] at hseg
  have hcv := fun W => esc_conv s1 W
  have HSEG := Lib.hid hseg
  have hs1 : s1.size ≤ 4000003 := by omega
  have hel := escL_size 4 s1
  have HEL := Lib.hid hel
  clear e1 e2 sz hseg hz1 hd1 hle hel
  go_enter Tryz.func77, Tryz.ntmps77
  go_wp2_with fail
  refine hra.mono ?_
  rintro e w1 ⟨rfl, hb1⟩
  clear hra
  go_wp2_with fail
  have hst : StrsAt (w1.alloc (.cells #[.string ⟨#[92]⟩, .string ⟨#[37, 53, 67]⟩, .string ⟨#[124]⟩, .string ⟨#[37, 55, 67]⟩] 9)) w1.heap.size (oldnew segPs) := fun j hj => by
    have e : oldnew segPs = [⟨#[92]⟩, ⟨#[37, 53, 67]⟩, ⟨#[124]⟩, ⟨#[37, 55, 67]⟩] := rfl
    rw [e] at hj ⊢
    have hj' : j < 4 := hj
    rw [Lib.cell_of_heap (heap_last _ _)]
    match j, hj' with
    | 0, _ => rfl
    | 1, _ => rfl
    | 2, _ => rfl
    | 3, _ => rfl
  refine (newrep_c segPs w1.heap.size 4 _ (by decide) (by decide) hst (by simp) (by decide) (by omega)).mono ?_
  rintro e w2 ⟨R, rfl, hR, hraw, hb2⟩
  have hB1 := hb1.alloc hb1.size (.cells #[.string ⟨#[92]⟩, .string ⟨#[37, 53, 67]⟩, .string ⟨#[124]⟩, .string ⟨#[37, 55, 67]⟩] 9)
  have hB2 : Below w.heap.size w w2 := hB1.trans (hb2.mono hB1.size)
  have hwR : w.heap.size < R := by have := hb1.size; simp at hR; omega
  have HRAW := Lib.hid hraw
  clear hst hraw hb2 hR hB1
  go_wp2_with fail
  refine (esc_at 4 s1 w2 _ _ rfl rfl (by decide) (by decide) (by omega)).mono ?_
  rintro e w3 ⟨rfl, hb3⟩
  have hraw3 : RawAt w3 R 0 segPs := by
    obtain ⟨g, c, q1, q2, q3, q4, q5⟩ := HRAW.out
    have hRl : R < w2.heap.size := (Array.getElem?_eq_some_iff.1 q1).1
    refine ⟨g, c, (hb3.block R hRl).trans q1, q2, fun j hj => (hb3.cell (p := ⟨g, j, none⟩) q4).trans (q3 j hj), Nat.lt_of_lt_of_le q4 hb3.size, q5⟩
  have hre := replacer_c segPs R ⟨(escL 4 s1.data.toList).toArray⟩ w3 (by decide) (by decide) ⟨0, by decide, by decide⟩ segPs_nodup (by decide) (by have := HEL.out; show (escL 4 s1.data.toList).toArray.size ≤ _; rw [List.size_toArray]; omega) hraw3
  have hB3 := hB2.trans (hb3.mono hB2.size)
  clear hraw3 hb3 HRAW hB2 hcv
  go_wp2_with fail
  refine hre.mono ?_
  rintro e w4 ⟨rfl, hgr⟩
  go_wp2
  go_ret
  exact ⟨ret_s (by rw [HSEG.out]), hB3.grown hgr hB3.size (fun q hq => by injection hq; omega)⟩
end Go.Proofs.YtibgiohijknmbaaGreatDoor
