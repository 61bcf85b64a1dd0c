/-
  parse.Clean: a text, cleaned.
-/
import Derived.Test.YtibgiohijknmbaaGreatDoorEncode
import Derived.Test.YtibgiohijknmbaaGreatDoorRepW
import Derived.Laws.RangeAny
namespace Go.Proofs.YtibgiohijknmbaaGreatDoor
open Go.RowKit
set_option linter.unusedVariables false
set_option linter.unusedSimpArgs false

def leSpace (x : Nat) : Bool := decide ((x : Int) ≤ 32)
def tabs : Pairs := [(9, []), (10, []), (13, [])]
def utfF (s : List UInt8) : List UInt8 := encF (decF s)
def cleanF (s : List UInt8) : List UInt8 := repL tabs (Lib.trimF leSpace ⟨(utfF s).toArray⟩).data.toList

theorem trimF_size (p : Nat → Bool) (s : ByteArray) : (Lib.trimF p s).size ≤ s.size := by
  unfold Lib.trimF Lib.trimRightF Lib.trimLeftF
  split
  · rw [ByteArray.size_extract]
    have : (⟨#[]⟩ : ByteArray).size = 0 := rfl
    omega
  · simp; omega
theorem utf8tabs_below {a b : Nat} {w w' : World} (h : Lib.Utf8Tabs a b w) (hb : Below w.heap.size w w') : Lib.Utf8Tabs a b w' := by
  have key : ∀ (p : Addr) (v : Value), w.cell? p = some v → w'.cell? p = some v := fun p v hp => by
    have hlt : p.block < w.heap.size := by
      apply Decidable.byContradiction
      intro hn
      have : w.heap[p.block]? = none := Array.getElem?_eq_none (by omega)
      simp [World.cell?, this] at hp
    rw [hb.cell hlt]
    exact hp
  exact ⟨fun c hc => key _ _ (h.1 c hc), fun i hi => ⟨key _ _ (h.2 i hi).1, key _ _ (h.2 i hi).2⟩⟩
theorem decodeGo_le (s : ByteArray) : (Lib.decodeGo s).1 ≤ 2147483647 := by
  unfold Lib.decodeGo
  split
  · simp
  · exact decode_le s 0
theorem firstF_int (l : List UInt8) : -2147483648 ≤ (firstF l).1 ∧ (firstF l).1 ≤ 2147483647 := by
  unfold firstF
  have h0 := (l.getD 0 0).toNat_lt
  split
  · simp only
    omega
  · split
    · simp
    · have := decodeGo_le ⟨(l.take (firstN l)).toArray⟩
      simp only
      omega
theorem decF_int (l : List UInt8) : ∀ r ∈ decF l, -2147483648 ≤ r ∧ r ≤ 2147483647 := by
  obtain ⟨n, hn⟩ : ∃ n, l.length = n := ⟨_, rfl⟩
  induction n using Nat.strongRecOn generalizing l with
  | ind n ih =>
    by_cases h : l = []
    · subst h; simp [decF_nil]
    · have h1 := firstF_range l h
      rw [decF_cons l h]
      intro r hr
      rcases List.mem_cons.1 hr with rfl | hr
      · exact firstF_int l
      · exact ih (l.drop (firstF l).2).length (by rw [List.length_drop]; omega) _ rfl r hr
theorem space_c (x : Nat) (w : World) : Calls Tryz.prog 97 #[.int .i32 x] w fun e w' => e = .returned (.bool (leSpace x)) ∧ w' = w := by
  go_enter Tryz.func97, Tryz.ntmps97
  go_wp2
  go_ret
  exact ⟨rfl, rfl⟩
theorem space_pred (w : World) : PredAt Tryz.prog 97 #[] encR leSpace w := fun W x _ =>
  (space_c x W).mono fun e w' ⟨he, hw⟩ => ⟨he, 0, hw⟩
theorem repTabs_nodup : (tabs.map (·.1)).Nodup := by decide

/-- Bytes in memory, turned to a string, whichever slice they lie in. -/
theorem conv_own {w : World} {base : Nat} {u : Value} {l : List UInt8} (h : w.ownsRow base 5 1 u l.length (byteV l)) :
    (convert 29 9 u).run Tryz.prog w = .ok (.string ⟨l.toArray⟩) w := by
  rcases h.2 with ⟨rfl, h0⟩ | ⟨g, cap, cur, rfl, hb, hh, hn, hm, hs, ht⟩
  · have : l = [] := List.length_eq_zero_iff.1 h0
    subst this
    exact run_convert_bytes_nil (P := Tryz.prog) w 29 5 Tryz.underlying29 Tryz.underlying5 0 0 9 Tryz.underlying9
  · have := run_convert_bytes_arg (P := Tryz.prog) w 29 5 Tryz.underlying29 Tryz.underlying5 g 0 l.length cap (l.map fun b => ((b.toNat : Nat) : Int)) (by simp) (fun i hi => by
      have := h.cells (g := g) rfl i (.int .u8 ((l.getD i 0).toNat : Int)) (by simp [byteV, List.getD_eq_getElem?_getD, List.getElem?_eq_getElem hi])
      rw [addr_add0] at this
      rw [Nat.zero_add, this]
      simp [List.getD_eq_getElem?_getD, List.getElem?_eq_getElem hi]) 9 Tryz.underlying9
    rw [this]
    have hc : (l.map fun b => UInt8.ofNat (((b.toNat : Nat) : Int)).toNat) = l := by
      conv => rhs; rw [← List.map_id l]
      refine List.map_congr_left fun b _ => ?_
      simp
    simp [strOfNums]
    exact hc
set_option maxRecDepth 100000 in
set_option maxHeartbeats 2000000 in
theorem clean_c (s : ByteArray) (w : World) (hT : Lib.Utf8Tabs 1 2 w) (hs : s.size ≤ 268435456) :
    Calls Tryz.prog 54 #[.string s] w fun e w' => e = .returned (.string ⟨(cleanF s.data.toList).toArray⟩) ∧ Below w.heap.size w w' := by
  have hcv := Lib.run_convert_string_bytes (P := Tryz.prog) w 9 29 5 s Tryz.underlying9 Tryz.underlying29 Tryz.underlying5
  have sz : s.size = s.data.toList.length := by rw [Array.length_toList]; rfl
  have hb0 := below_bytesWorld w 5 s
  have hT0 := utf8tabs_below hT hb0
  have hby : BytesAt (Lib.bytesWorld w 5 s) w.heap.size 0 s.data.toList := fun j hj => by
    rw [Nat.zero_add, Lib.bytesWorld_cell w _ s j (by omega)]
  have hcap1 := grownCap_ge w s.size 0 5
  have hcap2 := grownCap_le_maxLen w s.size 0 5 (by unfold maxLen; omega)
  have hsz := Lib.bytesWorld_size w 5 s
  have hde := fun (_ : Unit) (W1 : World) (cap1 : Nat) (hT0 : Lib.Utf8Tabs 1 2 W1) hc1 hc2 hby hsz => decode_c s.data.toList w.heap.size 0 cap1 W1 hT0 hc1 (by omega) hc2 hby hsz
  rw [← sz] at hde
  generalize Lib.bytesWorld w 5 s = W1 at *
  generalize grownCap w s.size 0 5 = cap1 at *
  have hdl := decF_length s.data.toList
  rw [← sz] at hdl
  have hde1 := hde () W1 cap1 hT0 hcap1 (by unfold maxLen at hcap2; omega) hby (by omega)
  clear hde sz hT hby hcap1 hcap2
  go_enter Tryz.func54, Tryz.ntmps54
  go_wp2_with (go_at_call 95; refine hde1.mono ?_; rintro e w1 ⟨v, rfl, hv, hb1⟩)
  have hT1 := utf8tabs_below hT0 hb1
  have hen := encode_c (decF s.data.toList) v w1 (decF_int _) (by omega) (runes_of_own hv)
  have hel := encF_length (decF s.data.toList)
  refine hen.mono ?_
  rintro e w2 ⟨u, rfl, hu, hb2⟩
  have hT2 := utf8tabs_below hT1 hb2
  have hcv2 := conv_own hu
  have hB2 : Below w.heap.size w w2 := (hb0.trans (hb1.mono hb0.size)).trans (hb2.mono (Nat.le_trans hb0.size hb1.size))
  have htr := Tryz.strings_TrimFunc 97 #[] (fun args w => by rfl) leSpace ⟨(utfF s.data.toList).toArray⟩ w2 (by show (utfF s.data.toList).toArray.size ≤ _; rw [List.size_toArray]; unfold utfF; omega) hT2 (space_pred w2)
  have htz : (Lib.trimF leSpace ⟨(utfF s.data.toList).toArray⟩).size ≤ 4294967296 := by
    refine Nat.le_trans (trimF_size _ _) ?_
    show (utfF s.data.toList).toArray.size ≤ _
    rw [List.size_toArray]
    unfold utfF
    omega
  unfold utfF at htr htz
  clear hen hel hdl hv hu hT0 hT1 hT2 hb0 hb1 hb2 hde1 hcv
  go_wp2_with (go_at_call 96; refine htr.mono ?_; rintro e w3 ⟨rfl, hb3⟩)
  have hst : StrsAt (w3.alloc (.cells #[.string ⟨#[9]⟩, .string ⟨#[]⟩, .string ⟨#[10]⟩, .string ⟨#[]⟩, .string ⟨#[13]⟩, .string ⟨#[]⟩] 9)) w3.heap.size (oldnew tabs) := fun j hj => by
    have e : oldnew tabs = [⟨#[9]⟩, ⟨#[]⟩, ⟨#[10]⟩, ⟨#[]⟩, ⟨#[13]⟩, ⟨#[]⟩] := rfl
    rw [e] at hj ⊢
    have hj' : j < 6 := hj
    rw [Lib.cell_of_heap (heap_last _ _)]
    match j, hj' with
    | 0, _ => rfl
    | 1, _ => rfl
    | 2, _ => rfl
    | 3, _ => rfl
    | 4, _ => rfl
    | 5, _ => rfl
  refine (newrep_c tabs w3.heap.size 6 _ (by decide) (by decide) hst (by simp) (by decide) (by omega)).mono ?_
  rintro e w4 ⟨R, rfl, hR, hraw, hb4⟩
  have hre := replacer_c tabs R (Lib.trimF leSpace ⟨(encF (decF s.data.toList)).toArray⟩) w4 (by decide) (by decide) ⟨0, by decide, by decide⟩ repTabs_nodup (by decide) htz hraw
  have hsz3 : w3.heap.size < R := by
    have : (w3.alloc (.cells #[.string ⟨#[9]⟩, .string ⟨#[]⟩, .string ⟨#[10]⟩, .string ⟨#[]⟩, .string ⟨#[13]⟩, .string ⟨#[]⟩] 9)).heap.size = w3.heap.size + 1 := by simp
    omega
  have hB3 : Below w.heap.size w w3 := hB2.trans (hb3.mono hB2.size)
  have hB4 : Below w.heap.size w w4 := (hB3.alloc hB3.size _).trans (hb4.mono (by simp; have := hB3.size; omega))
  have hwR : w.heap.size < R := by have := hB3.size; omega
  clear htr hcv2 hst hb4 hb3 hraw hB2
  go_wp2_with (go_at_call 99; refine hre.mono ?_; rintro e w5 ⟨rfl, hgr⟩)
  go_ret
  exact ⟨rfl, hB4.grown hgr hB4.size (fun q hq => by injection hq; omega)⟩
end Go.Proofs.YtibgiohijknmbaaGreatDoor
