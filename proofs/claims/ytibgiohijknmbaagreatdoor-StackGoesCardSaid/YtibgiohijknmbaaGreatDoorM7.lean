/-
  Joined texts: RepW, Clean, Scheme.
-/
import Derived.Test.YtibgiohijknmbaaGreatDoorM6
import Derived.Test.YtibgiohijknmbaaGreatDoorM4
import Derived.Laws.RangeAny
import Derived.Test.YtibgiohijknmbaaGreatDoorShelf
/-
  (*strings.Replacer).Replace on a replacer that has not been built yet.
-/
namespace Go.Proofs.YtibgiohijknmbaaGreatDoor
open Go.RowKit
set_option linter.unusedVariables false
set_option linter.unusedSimpArgs false

set_option maxRecDepth 100000 in
set_option maxHeartbeats 2000000 in
theorem replacer_c (ps : Pairs) (R : Nat) (s : ByteArray) (w : World) (hm : 2 ≤ ps.length) (hm2 : ps.length ≤ 256) (hnot : ∃ i, i < ps.length ∧ (ps.getD i (0, [])).2.length ≠ 1) (hnd : (ps.map (·.1)).Nodup) (hlong : ∀ p ∈ ps, p.2.length ≤ 1000) (hs : s.size ≤ 4294967296) (h : RawAt w R 0 ps) :
    Calls Tryz.prog 99 #[.pointer (some ⟨R, 0, none⟩), .string s] w fun e w' => e = .returned (.string ⟨(repL ps s.data.toList).toArray⟩) ∧ w.grownBy w' (some R) := by
  obtain ⟨g, c, hR, hc, hst, hg, hgR⟩ := h
  have hRlt : R < w.heap.size := (Array.getElem?_eq_some_iff.1 hR).1
  have c0 : w.cell? ⟨R, 0, none⟩ = some (.int .u32 0) := by rw [Lib.cell_of_heap hR]; rfl
  have c1 : w.cell? ⟨R, 1, none⟩ = some (.int .i32 0) := by rw [Lib.cell_of_heap hR]; rfl
  have f0 : w.frozen? ⟨R, 0, none⟩ = false := Lib.frozen_of_heap hR 0
  have f1 : w.frozen? ⟨R, 1, none⟩ = false := Lib.frozen_of_heap hR 1
  have hR1 : (w.setCell ⟨R, 1, none⟩ (.int .i32 1)).heap[R]? = some (.cells #[.int .u32 0, .int .i32 1, .int .u32 0, .nilIface, .slice (some ⟨g, 0, none⟩) (2 * ps.length) c] 234 (0, 0)) := by
    have := heap_setCell_same w R 1 _ 234 (.int .i32 1) hR
    simpa using this
  have hraw : RawAt (w.setCell ⟨R, 1, none⟩ (.int .i32 1)) R 1 ps := ⟨g, c, hR1, hc, fun j hj => by
    rw [World.cell?_setCell_other _ _ _ _ (by intro h; injection h; omega)]
    exact hst j hj, by rw [World.size_setCell]; exact hg, hgR⟩
  have hb := buildonce_c ps R _ hm hm2 hnot hnd hlong hraw
  have hdo := o_do R _ (fun w2 => ∃ Q, w2.heap[R]? = some (.cells #[.int .u32 0, .int .i32 1, .int .u32 0, .iface 306 (.pointer (some ⟨Q, 0, none⟩)), .slice none 0 0] 234 (0, 0)) ∧ RepAt w2 w.heap.size Q ps ∧ (w.setCell ⟨R, 1, none⟩ (.int .i32 1)).grownBy w2 (some R)) w rfl c0 c1 f0 f1 (hb.mono fun e w2 ⟨he, Q, q1, q2, q3⟩ => ⟨he, ⟨by rw [Lib.cell_of_heap q1]; rfl, by rw [Lib.cell_of_heap q1]; rfl, Lib.frozen_of_heap q1 0, Lib.frozen_of_heap q1 1⟩, Q, q1, by rwa [World.size_setCell] at q2, q3⟩)
  clear hb hraw hR1 hst
  go_enter Tryz.func99, Tryz.ntmps99
  go_wp2_with (go_at_call 157; refine hdo.mono ?_)
  rintro e w1 ⟨rfl, w2, ⟨Q, q1, q2, q3⟩, rfl⟩
  have hE : (onceEnd R w2).heap[R]? = some (.cells #[.int .u32 1, .int .i32 0, .int .u32 0, .iface 306 (.pointer (some ⟨Q, 0, none⟩)), .slice none 0 0] 234 (0, 0)) := by
    unfold onceEnd
    have q1' : w2.drew.heap[R]? = some (.cells #[.int .u32 0, .int .i32 1, .int .u32 0, .iface 306 (.pointer (some ⟨Q, 0, none⟩)), .slice none 0 0] 234 (0, 0)) := q1
    have := heap_setCell_same _ R 1 _ 234 (.int .i32 0) (heap_setCell_same w2.drew R 0 _ 234 (.int .u32 1) q1')
    simpa using this
  have hrep : RepAt (onceEnd R w2) w.heap.size Q ps := q2.move fun k cells T fz hk hT => by
    have hkR : k ≠ R := by
      rintro rfl
      rw [q1] at hk
      injection hk with hk
      injection hk with _ ht
      exact hT ht.symm
    unfold onceEnd
    rw [heap_setCell_other _ _ _ _ hkR, heap_setCell_other _ _ _ _ hkR]
    rfl
  have hgr : w.grownBy (onceEnd R w2) (some R) := by
    refine ⟨q3.os, q3.tape, q3.output, ?_, fun k hk hne => ?_⟩
    · have h1 := q3.size
      rw [World.size_setCell] at h1
      unfold onceEnd
      rw [World.size_setCell, World.size_setCell]
      exact h1
    · have hkR : k ≠ R := fun h => hne (by rw [h])
      unfold onceEnd
      rw [heap_setCell_other _ _ _ _ hkR, heap_setCell_other _ _ _ _ hkR]
      exact (q3.block k (by rw [World.size_setCell]; exact hk) hne).trans (heap_setCell_other _ _ _ _ hkR)
  generalize onceEnd R w2 = w3 at *
  have c3 : w3.cell? ⟨R, 3, none⟩ = some (.iface 306 (.pointer (some ⟨Q, 0, none⟩))) := by rw [Lib.cell_of_heap hE]; rfl
  clear q1 q2 q3 hdo hR c0 c1 f0 f1
  have hmeth : ∀ (a : Addr) (w : World), (method 529 306 (.pointer (some a)) "Replace").run Tryz.prog w = .ok (421, .pointer (some a)) w := fun a w => by kernel_rfl
  go_wp2_with (go_at_call 421; refine (replace_c ps w.heap.size Q s w3 (by intro h; rw [h] at hm; simp at hm) hm2 hnd hlong hs hrep).mono ?_; rintro e w4 ⟨rfl, hbl4⟩)
  go_ret
  exact ⟨rfl, hgr.trans ⟨hbl4.os, hbl4.tape, hbl4.output, hbl4.size, fun k hk _ => hbl4.block k hk⟩⟩
end Go.Proofs.YtibgiohijknmbaaGreatDoor

/-
  parse.Clean: a text, cleaned.
-/
namespace Go.Proofs.YtibgiohijknmbaaGreatDoor
open Go.RowKit
set_option linter.unusedVariables false
set_option linter.unusedSimpArgs false

def leSpace (x : Nat) : Bool := decide ((x : Int) ≤ 32)
def tabs : Pairs := [(9, []), (10, []), (13, [])]
def utfF (s : List UInt8) : List UInt8 := encF (decF s)
def cleanF (s : List UInt8) : List UInt8 := repL tabs (Lib.trimF leSpace ⟨(utfF s).toArray⟩).data.toList

theorem trimF_size (p : Nat → Bool) (s : ByteArray) : (Lib.trimF p s).size ≤ s.size := by
  unfold Lib.trimF Lib.trimRightF Lib.trimLeftF
  split
  · rw [ByteArray.size_extract]
    have : (⟨#[]⟩ : ByteArray).size = 0 := rfl
    omega
  · simp; omega
theorem utf8tabs_below {a b : Nat} {w w' : World} (h : Lib.Utf8Tabs a b w) (hb : Below w.heap.size w w') : Lib.Utf8Tabs a b w' := by
  have key : ∀ (p : Addr) (v : Value), w.cell? p = some v → w'.cell? p = some v := fun p v hp => by
    have hlt : p.block < w.heap.size := by
      apply Decidable.byContradiction
      intro hn
      have : w.heap[p.block]? = none := Array.getElem?_eq_none (by omega)
      simp [World.cell?, this] at hp
    rw [hb.cell hlt]
    exact hp
  exact ⟨fun c hc => key _ _ (h.1 c hc), fun i hi => ⟨key _ _ (h.2 i hi).1, key _ _ (h.2 i hi).2⟩⟩
theorem decodeGo_le (s : ByteArray) : (Lib.decodeGo s).1 ≤ 2147483647 := by
  unfold Lib.decodeGo
  split
  · simp
  · exact decode_le s 0
theorem firstF_int (l : List UInt8) : -2147483648 ≤ (firstF l).1 ∧ (firstF l).1 ≤ 2147483647 := by
  unfold firstF
  have h0 := (l.getD 0 0).toNat_lt
  split
  · simp only
    omega
  · split
    · simp
    · have := decodeGo_le ⟨(l.take (firstN l)).toArray⟩
      simp only
      omega
theorem decF_int (l : List UInt8) : ∀ r ∈ decF l, -2147483648 ≤ r ∧ r ≤ 2147483647 := by
  obtain ⟨n, hn⟩ : ∃ n, l.length = n := ⟨_, rfl⟩
  induction n using Nat.strongRecOn generalizing l with
  | ind n ih =>
    by_cases h : l = []
    · subst h; simp [decF_nil]
    · have h1 := firstF_range l h
      rw [decF_cons l h]
      intro r hr
      rcases List.mem_cons.1 hr with rfl | hr
      · exact firstF_int l
      · exact ih (l.drop (firstF l).2).length (by rw [List.length_drop]; omega) _ rfl r hr
theorem space_c (x : Nat) (w : World) : Calls Tryz.prog 97 #[.int .i32 x] w fun e w' => e = .returned (.bool (leSpace x)) ∧ w' = w := by
  go_enter Tryz.func97, Tryz.ntmps97
  go_wp2
  go_ret
  exact ⟨rfl, rfl⟩
theorem space_pred (w : World) : PredAt Tryz.prog 97 #[] encR leSpace w := fun W x _ =>
  (space_c x W).mono fun e w' ⟨he, hw⟩ => ⟨he, 0, hw⟩
theorem repTabs_nodup : (tabs.map (·.1)).Nodup := by decide

/-- Bytes in memory, turned to a string, whichever slice they lie in. -/
theorem conv_own {w : World} {base : Nat} {u : Value} {l : List UInt8} (h : w.ownsRow base 5 1 u l.length (byteV l)) :
    (convert 29 9 u).run Tryz.prog w = .ok (.string ⟨l.toArray⟩) w := by
  rcases h.2 with ⟨rfl, h0⟩ | ⟨g, cap, cur, rfl, hb, hh, hn, hm, hs, ht⟩
  · have : l = [] := List.length_eq_zero_iff.1 h0
    subst this
    exact run_convert_bytes_nil (P := Tryz.prog) w 29 5 Tryz.underlying29 Tryz.underlying5 0 0 9 Tryz.underlying9
  · have := run_convert_bytes_arg (P := Tryz.prog) w 29 5 Tryz.underlying29 Tryz.underlying5 g 0 l.length cap (l.map fun b => ((b.toNat : Nat) : Int)) (by simp) (fun i hi => by
      have := h.cells (g := g) rfl i (.int .u8 ((l.getD i 0).toNat : Int)) (by simp [byteV, List.getD_eq_getElem?_getD, List.getElem?_eq_getElem hi])
      rw [addr_add0] at this
      rw [Nat.zero_add, this]
      simp [List.getD_eq_getElem?_getD, List.getElem?_eq_getElem hi]) 9 Tryz.underlying9
    rw [this]
    have hc : (l.map fun b => UInt8.ofNat (((b.toNat : Nat) : Int)).toNat) = l := by
      conv => rhs; rw [← List.map_id l]
      refine List.map_congr_left fun b _ => ?_
      simp
    simp [strOfNums]
    exact hc
set_option maxRecDepth 100000 in
set_option maxHeartbeats 2000000 in
theorem clean_c (s : ByteArray) (w : World) (hT : Lib.Utf8Tabs 1 2 w) (hs : s.size ≤ 268435456) :
    Calls Tryz.prog 54 #[.string s] w fun e w' => e = .returned (.string ⟨(cleanF s.data.toList).toArray⟩) ∧ Below w.heap.size w w' := by
  have hcv := Lib.run_convert_string_bytes (P := Tryz.prog) w 9 29 5 s Tryz.underlying9 Tryz.underlying29 Tryz.underlying5
  have sz : s.size = s.data.toList.length := by rw [Array.length_toList]; rfl
  have hb0 := below_bytesWorld w 5 s
  have hT0 := utf8tabs_below hT hb0
  have hby : BytesAt (Lib.bytesWorld w 5 s) w.heap.size 0 s.data.toList := fun j hj => by
    rw [Nat.zero_add, Lib.bytesWorld_cell w _ s j (by omega)]
  have hcap1 := grownCap_ge w s.size 0 5
  have hcap2 := grownCap_le_maxLen w s.size 0 5 (by unfold maxLen; omega)
  have hsz := Lib.bytesWorld_size w 5 s
  have hde := fun (_ : Unit) (W1 : World) (cap1 : Nat) (hT0 : Lib.Utf8Tabs 1 2 W1) hc1 hc2 hby hsz => decode_c s.data.toList w.heap.size 0 cap1 W1 hT0 hc1 (by omega) hc2 hby hsz
  rw [← sz] at hde
  generalize Lib.bytesWorld w 5 s = W1 at *
  generalize grownCap w s.size 0 5 = cap1 at *
  have hdl := decF_length s.data.toList
  rw [← sz] at hdl
  have hde1 := hde () W1 cap1 hT0 hcap1 (by unfold maxLen at hcap2; omega) hby (by omega)
  clear hde sz hT hby hcap1 hcap2
  go_enter Tryz.func54, Tryz.ntmps54
  go_wp2_with (go_at_call 95; refine hde1.mono ?_; rintro e w1 ⟨v, rfl, hv, hb1⟩)
  have hT1 := utf8tabs_below hT0 hb1
  have hen := encode_c (decF s.data.toList) v w1 (decF_int _) (by omega) (runes_of_own hv)
  have hel := encF_length (decF s.data.toList)
  refine hen.mono ?_
  rintro e w2 ⟨u, rfl, hu, hb2⟩
  have hT2 := utf8tabs_below hT1 hb2
  have hcv2 := conv_own hu
  have hB2 : Below w.heap.size w w2 := (hb0.trans (hb1.mono hb0.size)).trans (hb2.mono (Nat.le_trans hb0.size hb1.size))
  have htr := Tryz.strings_TrimFunc 97 #[] (fun args w => by rfl) leSpace ⟨(utfF s.data.toList).toArray⟩ w2 (by show (utfF s.data.toList).toArray.size ≤ _; rw [List.size_toArray]; unfold utfF; omega) hT2 (space_pred w2)
  have htz : (Lib.trimF leSpace ⟨(utfF s.data.toList).toArray⟩).size ≤ 4294967296 := by
    refine Nat.le_trans (trimF_size _ _) ?_
    show (utfF s.data.toList).toArray.size ≤ _
    rw [List.size_toArray]
    unfold utfF
    omega
  unfold utfF at htr htz
  clear hen hel hdl hv hu hT0 hT1 hT2 hb0 hb1 hb2 hde1 hcv
  go_wp2_with (go_at_call 96; refine htr.mono ?_; rintro e w3 ⟨rfl, hb3⟩)
  have hst : StrsAt (w3.alloc (.cells #[.string ⟨#[9]⟩, .string ⟨#[]⟩, .string ⟨#[10]⟩, .string ⟨#[]⟩, .string ⟨#[13]⟩, .string ⟨#[]⟩] 9)) w3.heap.size (oldnew tabs) := fun j hj => by
    have e : oldnew tabs = [⟨#[9]⟩, ⟨#[]⟩, ⟨#[10]⟩, ⟨#[]⟩, ⟨#[13]⟩, ⟨#[]⟩] := rfl
    rw [e] at hj ⊢
    have hj' : j < 6 := hj
    rw [Lib.cell_of_heap (heap_last _ _)]
    match j, hj' with
    | 0, _ => rfl
    | 1, _ => rfl
    | 2, _ => rfl
    | 3, _ => rfl
    | 4, _ => rfl
    | 5, _ => rfl
  refine (newrep_c tabs w3.heap.size 6 _ (by decide) (by decide) hst (by simp) (by decide) (by omega)).mono ?_
  rintro e w4 ⟨R, rfl, hR, hraw, hb4⟩
  have hre := replacer_c tabs R (Lib.trimF leSpace ⟨(encF (decF s.data.toList)).toArray⟩) w4 (by decide) (by decide) ⟨0, by decide, by decide⟩ repTabs_nodup (by decide) htz hraw
  have hsz3 : w3.heap.size < R := by
    have : (w3.alloc (.cells #[.string ⟨#[9]⟩, .string ⟨#[]⟩, .string ⟨#[10]⟩, .string ⟨#[]⟩, .string ⟨#[13]⟩, .string ⟨#[]⟩] 9)).heap.size = w3.heap.size + 1 := by simp
    omega
  have hB3 : Below w.heap.size w w3 := hB2.trans (hb3.mono hB2.size)
  have hB4 : Below w.heap.size w w4 := (hB3.alloc hB3.size _).trans (hb4.mono (by simp; have := hB3.size; omega))
  have hwR : w.heap.size < R := by have := hB3.size; omega
  clear htr hcv2 hst hb4 hb3 hraw hB2
  go_wp2_with (go_at_call 99; refine hre.mono ?_; rintro e w5 ⟨rfl, hgr⟩)
  go_ret
  exact ⟨rfl, hB4.grown hgr hB4.size (fun q hq => by injection hq; omega)⟩
end Go.Proofs.YtibgiohijknmbaaGreatDoor

/-
  parse.scheme: a text's scheme, and what stands behind it.
-/
namespace Go.Proofs.YtibgiohijknmbaaGreatDoor
open Go.RowKit
set_option linter.unusedVariables false
set_option linter.unusedSimpArgs false

def schemeByte (c : UInt8) : Bool := letterB (c.toNat : Int) || digitB (c.toNat : Int) || decide (0 ≤ Lib.indexByte [43, 45, 46] c)
def schemeF (s : List UInt8) : List UInt8 × List UInt8 × Bool :=
  if (Lib.cut s [58]).2.2 = false ∨ (Lib.cut s [58]).1 = [] ∨ letterB (((Lib.cut s [58]).1.getD 0 0).toNat : Int) = false ∨ (Lib.cut s [58]).1.all schemeByte = false then ([], s, false)
  else (lowerL (Lib.cut s [58]).1, (Lib.cut s [58]).2.1, true)

theorem cut_le (l m : List UInt8) : (Lib.cut l m).1.length ≤ l.length := by
  unfold Lib.cut
  split
  · rw [List.length_take]; omega
  · exact Nat.le_refl _

set_option maxRecDepth 100000 in
set_option maxHeartbeats 2000000 in
theorem scheme_c (s : ByteArray) (m : Int) (w : World) (hm : w.cell? ⟨0, 0, none⟩ = some (.int .i64 m)) (hs : s.size ≤ 1073741824) :
    Calls Tryz.prog 56 #[.string s] w fun e w' => e = .returned (.tuple #[.string ⟨(schemeF s.data.toList).1.toArray⟩, .string ⟨(schemeF s.data.toList).2.1.toArray⟩, .bool (schemeF s.data.toList).2.2]) ∧ Below w.heap.size w w' := by
  have hcut := Tryz.strings_Cut s ⟨#[58]⟩ m w (by omega) hm
  have hd : ∀ n, Below w.heap.size w (w.drewN n) := fun n => ⟨rfl, rfl, rfl, Nat.le_refl _, fun _ _ => rfl⟩
  have e58 : (⟨#[58]⟩ : ByteArray).data.toList = [58] := rfl
  rw [e58] at hcut
  unfold schemeF
  have hsize := cut_le s.data.toList [58]
  have sz : s.data.toList.length = s.size := by rw [Array.length_toList]; rfl
  rw [sz] at hsize
  clear sz
  generalize (Lib.cut s.data.toList [58]) = cc at *
  obtain ⟨name, rest, ok⟩ := cc
  simp only at hcut ⊢
  by_cases hok : ok = false
  · subst hok
    simp only [true_or, if_true]
    go_enter Tryz.func56, Tryz.ntmps56
    go_wp2_with (go_at_call 55; refine hcut.mono ?_; rintro e w1 ⟨rfl, n1, rfl⟩)
    go_ret3
    exact ⟨rfl, hd _⟩
  · obtain rfl : ok = true := by cases ok <;> simp_all
    by_cases hn : name = []
    · subst hn
      simp only [true_or, or_true, if_true]
      go_enter Tryz.func56, Tryz.ntmps56
      go_wp2_with (go_at_call 55; refine hcut.mono ?_; rintro e w1 ⟨rfl, n1, rfl⟩)
      go_ret3
      exact ⟨rfl, hd _⟩
    · have h0 : 0 < name.length := by cases name with | nil => exact absurd rfl hn | cons _ _ => simp
      have hname : name = (⟨name.toArray⟩ : ByteArray).data.toList := rfl
      have hsn : (⟨name.toArray⟩ : ByteArray).size = name.length := by show name.toArray.size = _; simp
      generalize (⟨name.toArray⟩ : ByteArray) = nb at *
      rw [← hsn] at h0 hsize
      have hget : ∀ (k : Nat) (h : k < nb.size), ((nb[k]'h).toNat : Int) = sAt nb k := fun k h => by
        unfold sAt
        rw [List.getD_eq_getElem?_getD, List.getElem?_eq_getElem (by rw [Array.length_toList]; exact h)]
        rfl
      have hn0 : ¬ nb = ⟨#[]⟩ := by intro h; rw [h] at h0; exact absurd h0 (by decide)
      have hemp : nb.toList.isEmpty = false := by
        rw [ByteArray.toList_eq]
        cases hl : nb.data.toList with
        | nil =>
          have : nb.data.toList.length = 0 := by rw [hl]; rfl
          rw [Array.length_toList] at this
          exact absurd h0 (by show ¬ 0 < nb.data.size; omega)
        | cons _ _ => rfl
      subst hname
      clear hsn hn
      have hlt0 : ((nb.data.toList.getD 0 0).toNat : Int) = sAt nb 0 := rfl
      rw [hlt0]
      clear hlt0
      by_cases hlet : letterB (sAt nb 0) = false
      · simp only [hlet, true_or, or_true, if_true]
        go_enter Tryz.func56, Tryz.ntmps56
        go_wp2_with (go_at_call 55; refine hcut.mono ?_; rintro e w1 ⟨rfl, n1, rfl⟩)
        refine (letter_c _ _).mono ?_
        rintro e w2 ⟨rfl, rfl⟩
        rw [hlet]
        go_wp2
        go_ret3
        exact ⟨rfl, hd _⟩
      · have hlet' : letterB (sAt nb 0) = true := by cases h : letterB (sAt nb 0) <;> simp_all
        have hne : nb.data.toList ≠ [] := by
          intro h
          have : nb.data.toList.length = 0 := by rw [h]; rfl
          rw [Array.length_toList] at this
          exact absurd h0 (by show ¬ 0 < nb.data.size; omega)
        have hres : (if true = false ∨ nb.data.toList = [] ∨ letterB (sAt nb 0) = false ∨ nb.data.toList.all schemeByte = false then (([], s.data.toList, false) : List UInt8 × List UInt8 × Bool) else (lowerL nb.data.toList, rest, true)) = if nb.data.toList.all schemeByte = false then ([], s.data.toList, false) else (lowerL nb.data.toList, rest, true) := by simp [hne, hlet']
        rw [hres]
        clear hres
        generalize hres : (if nb.data.toList.all schemeByte = false then (([], s.data.toList, false) : List UInt8 × List UInt8 × Bool) else (lowerL nb.data.toList, rest, true)) = res
        have HR : Hid ((if nb.data.toList.all schemeByte = false then (([], s.data.toList, false) : List UInt8 × List UInt8 × Bool) else (lowerL nb.data.toList, rest, true)) = res) := hres
        clear hres hne
        go_enter Tryz.func56, Tryz.ntmps56
        go_wp2_with (go_at_call 55; refine hcut.mono ?_; rintro e w1 ⟨rfl, n1, rfl⟩)
        refine (letter_c _ _).mono ?_
        rintro e w2 ⟨rfl, rfl⟩
        rw [hlet']
        go_wp2
        have HB : Hid (∀ k : Nat, k < nb.size → ((nb.data.toList.getD k 0).toNat : Int) = sAt nb k) := fun k _ => rfl
        go_loopw [31] (fun i wr => ∃ k : Nat, k ≤ nb.size ∧ i = .int .i64 k ∧ wr = w.drewN n1 ∧ Hid (∀ j, j < k → schemeByte (nb.data.toList.getD j 0) = true)) (fun i _ => nb.size - (intOf i).toNat)
        case atStart => exact ⟨0, Nat.zero_le _, rfl, rfl, fun j hj => absurd hj (Nat.not_lt_zero _)⟩
        case round =>
          obtain ⟨k, hk, rfl, rfl, hall⟩ := hrel
          by_cases hlt : k < nb.size
          · have hlt' : (k : Int) < (nb.size : Int) := by omega
            have hib := fun W => Tryz.strings_IndexByte ⟨#[43, 45, 46]⟩ (sAt nb k) W
            have hbyte : schemeByte (nb.data.toList.getD k 0) = (letterB (sAt nb k) || digitB (sAt nb k) || decide (0 ≤ Lib.indexByte [43, 45, 46] (nb.data.toList.getD k 0))) := rfl
            by_cases hL : letterB (sAt nb k) = true
            · have hall2 : Hid (∀ j, j < k + 1 → schemeByte (nb.data.toList.getD j 0) = true) := fun j hj => by
                by_cases e : j = k
                · subst e; rw [hbyte, hL]; rfl
                · exact hall.out j (by omega)
              clear hbyte
              go_wp2_with (go_at_call 101; refine (letter_c _ _).mono ?_; rintro e w2 ⟨rfl, rfl⟩; rw [hL])
              exact ⟨⟨k + 1, by omega, by go_num, trivial, hall2⟩, by simp [intOf]; omega⟩
            · have hL' : letterB (sAt nb k) = false := by cases h : letterB (sAt nb k) <;> simp_all
              by_cases hD : digitB (sAt nb k) = true
              · have hall2 : Hid (∀ j, j < k + 1 → schemeByte (nb.data.toList.getD j 0) = true) := fun j hj => by
                  by_cases e : j = k
                  · subst e; rw [hbyte, hD, hL']; rfl
                  · exact hall.out j (by omega)
                clear hbyte
                go_wp2_with (first | (go_at_call 101; refine (letter_c _ _).mono ?_; rintro e w2 ⟨rfl, rfl⟩; rw [hL']) | (go_at_call 102; refine (digit_c _ _).mono ?_; rintro e w2 ⟨rfl, rfl⟩; rw [hD]))
                exact ⟨⟨k + 1, by omega, by go_num, trivial, hall2⟩, by simp [intOf]; omega⟩
              · have hD' : digitB (sAt nb k) = false := by cases h : digitB (sAt nb k) <;> simp_all
                have hu : (sAt nb k).toNat.toUInt8 = nb.data.toList.getD k 0 := by unfold sAt; simp
                have hib := fun W => Tryz.strings_IndexByte ⟨#[43, 45, 46]⟩ (sAt nb k) W
                rw [hu] at hib
                have e3 : (⟨#[43, 45, 46]⟩ : ByteArray).data.toList = [43, 45, 46] := rfl
                rw [e3] at hib
                rw [hL', hD'] at hbyte
                simp only [Bool.false_or] at hbyte
                clear e3 hu
                by_cases hI : 0 ≤ Lib.indexByte [43, 45, 46] (nb.data.toList.getD k 0)
                · have hall2 : Hid (∀ j, j < k + 1 → schemeByte (nb.data.toList.getD j 0) = true) := fun j hj => by
                    by_cases e : j = k
                    · subst e; rw [hbyte]; simpa using hI
                    · exact hall.out j (by omega)
                  clear hbyte
                  generalize Lib.indexByte [43, 45, 46] (nb.data.toList.getD k 0) = ib at *
                  have hI' : ¬ ib < 0 := by omega
                  go_wp2_with (first | (go_at_call 101; refine (letter_c _ _).mono ?_; rintro e w2 ⟨rfl, rfl⟩; rw [hL']) | (go_at_call 102; refine (digit_c _ _).mono ?_; rintro e w2 ⟨rfl, rfl⟩; rw [hD']) | (go_at_call 103; refine (hib _).mono ?_; rintro e w2 ⟨rfl, rfl⟩))
                  exact ⟨⟨k + 1, by omega, by go_num, trivial, hall2⟩, by simp [intOf]; omega⟩
                · have hno : nb.data.toList.all schemeByte = false := by
                    rw [List.all_eq_false]
                    have hkl : k < nb.data.toList.length := by rw [Array.length_toList]; exact hlt
                    refine ⟨nb.data.toList.getD k 0, ?_, ?_⟩
                    · rw [List.getD_eq_getElem?_getD, List.getElem?_eq_getElem hkl]; exact List.getElem_mem _
                    · rw [hbyte]; simpa using hI
                  clear hbyte
                  generalize Lib.indexByte [43, 45, 46] (nb.data.toList.getD k 0) = ib at *
                  have hI' : ib < 0 := by omega
                  go_wp2_with (first | (go_at_call 101; refine (letter_c _ _).mono ?_; rintro e w2 ⟨rfl, rfl⟩; rw [hL']) | (go_at_call 102; refine (digit_c _ _).mono ?_; rintro e w2 ⟨rfl, rfl⟩; rw [hD']) | (go_at_call 103; refine (hib _).mono ?_; rintro e w2 ⟨rfl, rfl⟩))
                  go_ret3
                  have hr := HR.out
                  rw [hno] at hr
                  subst hr
                  exact ⟨rfl, hd _⟩
          · have hyes : nb.data.toList.all schemeByte = true := by
              rw [List.all_eq_true]
              intro x hx
              obtain ⟨j, hj, rfl⟩ := List.getElem_of_mem hx
              have hj' : j < nb.size := by rw [Array.length_toList] at hj; exact hj
              have := hall.out j (by omega)
              rwa [List.getD_eq_getElem?_getD, List.getElem?_eq_getElem hj] at this
            have hlt' : ¬ (k : Int) < (nb.size : Int) := by omega
            go_wp2_with (go_at_call 104; refine (lower_c nb _ (by omega)).mono ?_; rintro e w2 ⟨rfl, hb2⟩)
            go_ret3
            have hr := HR.out
            rw [hyes] at hr
            subst hr
            exact ⟨rfl, (hd n1).trans hb2⟩
end Go.Proofs.YtibgiohijknmbaaGreatDoor
