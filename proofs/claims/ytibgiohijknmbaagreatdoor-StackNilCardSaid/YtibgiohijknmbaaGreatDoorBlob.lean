/-
  blob.Kind, blob.New, Len, and slices.Clone of bytes.
-/
import Derived.Test.YtibgiohijknmbaaGreatDoorPState
import Derived.Test.YtibgiohijknmbaaGreatDoorEncode
import Derived.Test.YtibgiohijknmbaaGreatDoorRepB
import Derived.Laws.MakeOwn
namespace Go.Proofs.YtibgiohijknmbaaGreatDoor
open Go.RowKit
set_option linter.unusedVariables false
set_option linter.unusedSimpArgs false

def kindOk (c : UInt8) : Bool := decide (32 ≤ c.toNat ∧ c.toNat ≤ 126)
def kindF (l : List UInt8) : List UInt8 := if l.all kindOk = true then lowerL l else []

set_option maxRecDepth 100000 in
set_option maxHeartbeats 1000000 in
theorem kind_c (s : ByteArray) (w : World) (hs : s.size ≤ 1073741824) :
    Calls Tryz.prog 62 #[.string s] w fun e w' => e = .returned (.string ⟨(kindF s.data.toList).toArray⟩) ∧ Below w.heap.size w w' := by
  unfold kindF
  generalize hres : (if s.data.toList.all kindOk = true then lowerL s.data.toList else []) = res
  have HR := Lib.hid hres
  clear hres
  go_enter Tryz.func62, Tryz.ntmps62
  go_wp2
  have HB : Hid (∀ k : Nat, k < s.size → ((s.data.toList.getD k 0).toNat : Int) = sAt s k) := fun k _ => rfl
  go_loopw [6] (fun i wr => ∃ k : Nat, k ≤ s.size ∧ i = .int .i64 k ∧ wr = w ∧ Hid (∀ j, j < k → kindOk (s.data.toList.getD j 0) = true)) (fun i _ => s.size - (intOf i).toNat)
  case atStart => exact ⟨0, Nat.zero_le _, rfl, rfl, fun j hj => absurd hj (Nat.not_lt_zero _)⟩
  case round =>
    obtain ⟨k, hk, rfl, rfl, hall⟩ := hrel
    by_cases hlt : k < s.size
    · have hlt' : (k : Int) < (s.size : Int) := by omega
      have hkl : k < s.data.toList.length := by rw [Array.length_toList]; exact hlt
      have hget : ((s[k]'hlt).toNat : Int) = sAt s k := by
        unfold sAt
        rw [List.getD_eq_getElem?_getD, List.getElem?_eq_getElem hkl]
        rfl
      have hbyte : kindOk (s.data.toList.getD k 0) = decide (32 ≤ sAt s k ∧ sAt s k ≤ 126) := by
        unfold kindOk sAt
        congr 1
        rw [eq_iff_iff]
        omega
      have hmem : s.data.toList.getD k 0 ∈ s.data.toList := by
        rw [List.getD_eq_getElem?_getD, List.getElem?_eq_getElem hkl]; exact List.getElem_mem _
      have HM := Lib.hid hmem
      clear hmem hkl
      by_cases h : 32 ≤ sAt s k ∧ sAt s k ≤ 126
      · have hall2 : Hid (∀ j, j < k + 1 → kindOk (s.data.toList.getD j 0) = true) := fun j hj => by
          by_cases e : j = k
          · subst e; rw [hbyte]; simpa using h
          · exact hall.out j (by omega)
        obtain ⟨ha, hb⟩ := h
        have ha' : ¬ sAt s k < 32 := by omega
        have hb' : ¬ 126 < sAt s k := by omega
        clear hbyte
        go_wp2
        exact ⟨⟨k + 1, by omega, by go_num, trivial, hall2⟩, by simp [intOf]; omega⟩
      · have hno : s.data.toList.all kindOk = false := by
          rw [List.all_eq_false]
          refine ⟨_, HM.out, ?_⟩
          rw [hbyte]
          simpa using h
        have hr := HR.out
        rw [hno] at hr
        simp only [Bool.false_eq_true, if_false] at hr
        subst hr
        clear hbyte hno
        by_cases ha : sAt s k < 32
        · go_wp2
          go_ret
          exact ⟨rfl, Below.refl _ _⟩
        · have hb : 126 < sAt s k := by omega
          clear h
          go_wp2
          go_ret
          exact ⟨rfl, Below.refl _ _⟩
    · have hyes : s.data.toList.all kindOk = true := by
        rw [List.all_eq_true]
        intro x hx
        obtain ⟨j, hj, rfl⟩ := List.getElem_of_mem hx
        have hj' : j < s.size := by rw [Array.length_toList] at hj; exact hj
        have := hall.out j (by omega)
        rwa [List.getD_eq_getElem?_getD, List.getElem?_eq_getElem hj] at this
      have hr := HR.out
      rw [hyes, if_pos rfl] at hr
      subst hr
      have hlt' : ¬ (k : Int) < (s.size : Int) := by omega
      clear hyes
      go_wp2_with (go_at_call 104; refine (lower_c s _ (by omega)).mono ?_; rintro e w2 ⟨rfl, hb2⟩)
      go_ret
      exact ⟨rfl, hb2⟩

/-- Bytes that the call owns, in a slice that is no nil. -/
def BytesOwn (w : World) (B : Nat) (v : Value) (l : List UInt8) : Prop := w.ownsRow B 5 1 v l.length (byteV l) ∧ v ≠ .slice none 0 0
theorem BytesOwn.later {w w' : World} {B : Nat} {v : Value} {l : List UInt8} (h : BytesOwn w B v l) (k : Below w.heap.size w w') : BytesOwn w' B v l := ⟨own_later h.1 k, h.2⟩
theorem BytesOwn.base {w : World} {B B' : Nat} {v : Value} {l : List UInt8} (h : BytesOwn w B v l) (hB : B' ≤ B) : BytesOwn w B' v l := by
  refine ⟨⟨h.1.1, ?_⟩, h.2⟩
  rcases h.1.2 with h2 | ⟨g, cap, cur, hv, hg, r⟩
  · exact Or.inl h2
  · exact Or.inr ⟨g, cap, cur, hv, Nat.le_trans hB hg, r⟩
theorem BytesOwn.open {w : World} {B : Nat} {v : Value} {l : List UInt8} (h : BytesOwn w B v l) :
    ∃ g cap, v = .slice (some ⟨g, 0, none⟩) l.length cap ∧ BytesAt w g 0 l ∧ g < w.heap.size ∧ B ≤ g ∧ l.length ≤ cap ∧ cap ≤ maxLen := by
  rcases h.1.2 with ⟨hv, _⟩ | ⟨g, cap, cur, hv, hg, hh, hn, hm, hs, ht⟩
  · exact absurd hv h.2
  · refine ⟨g, cap, hv, ?_, (Array.getElem?_eq_some_iff.1 hh).1, hg, hn, hm⟩
    intro j hj
    have := h.1.cells (g := g) (by rw [hv]; rfl) j (.int .u8 ((l.getD j 0).toNat : Int)) (by simp [byteV, List.getD_eq_getElem?_getD, List.getElem?_eq_getElem hj])
    rw [addr_add0] at this
    rw [Nat.zero_add, this]
theorem addr_addn (b o j : Nat) : (⟨b, o, none⟩ : Addr).add j = ⟨b, o + j, none⟩ := by unfold Addr.add; split <;> simp_all
theorem uinfo : (Tryz.prog.info? 5).map (fun i => (i.zero, i.size, i.bytes)) = some (some (.int .u8 0), 1, 1) := by kernel_rfl
set_option maxRecDepth 100000 in
set_option maxHeartbeats 1000000 in
theorem clone_c (l : List UInt8) (b off cap : Nat) (w : World) (hlen : l.length ≤ 140737488351232) (hby : BytesAt w b off l) (hbw : b < w.heap.size) :
    Calls Tryz.prog 61 #[.slice (some ⟨b, off, none⟩) l.length cap] w fun e w' => ∃ v, e = .returned v ∧ BytesOwn w' w.heap.size v l ∧ Below w.heap.size w w' := by
  obtain ⟨i0, hi, hz0, hz1, hz2⟩ := info_parts uinfo
  have HBY := Lib.hid hby
  have HL := Lib.hid hlen
  have hq : ∀ (w : World) (a : Option Addr) (n c : Nat), (binOp .eql 29 (.slice a n c) (.slice none 0 0)).run Tryz.prog w = .ok (.bool a.isNone) w := fun w a n c => Lib.run_eql_slice_nil w 29 5 a n c 0 0 Tryz.underlying29
  clear hby hlen
  go_enter Tryz.func61, Tryz.ntmps61
  have hb0 : Below w.heap.size w (w.alloc (.cells #[] 5)) := (Below.refl _ _).alloc (Nat.le_refl _) _
  have hown : (w.alloc (.cells #[] 5)).ownsRow w.heap.size 5 1 (.slice (some ⟨w.heap.size, 0, none⟩) 0 0) 0 [] := by
    refine ⟨rfl, .inr ⟨w.heap.size, 0, #[], rfl, Nat.le_refl _, heap_last _ _, Nat.le_refl _, by unfold maxLen; omega, rfl, rfl⟩⟩
  have hcells : ∀ j u, (byteV l)[j]? = some u → (w.alloc (.cells #[] 5)).cell? ((⟨b, off, none⟩ : Addr).add j) = some u := fun j u hu => by
    have hj : j < l.length := by
      have := (List.getElem?_eq_some_iff.1 hu).1
      rwa [byteV_length] at this
    have h1 := (HBY.out.below hb0 hbw) j hj
    have e : (⟨b, off, none⟩ : Addr).add j = ⟨b, off + j, none⟩ := addr_addn b off j
    rw [e, h1, ← hu]
    simp [byteV, List.getD_eq_getElem?_getD, List.getElem?_eq_getElem hj]
  have hone : ∀ u ∈ byteV l, u.oneCell' = true := fun u hu => by
    unfold byteV at hu
    obtain ⟨x, _, rfl⟩ := List.mem_map.1 hu
    rfl
  have HO := Lib.hid hown
  have HCE := Lib.hid hcells
  have HON := Lib.hid hone
  clear hown hcells hone
  go_wp2_with (at_builtin; refine wpList_append_own _ rfl _ _ 29 rfl w.heap.size 5 i0 (.int .u8 0) 1 1 Tryz.underlying29 hi hz0 hz1 hz2 rfl (by decide) _ 0 [] rfl HO.out ⟨b, off, none⟩ l.length cap (byteV l) rfl (by rw [byteV_length, Nat.mul_one]) HCE.out HON.out (by have := HL.out; unfold maxLen; omega) (by have := HL.out; omega) hb0.size ?_; intro v' w1 hown1 hgr1 hnn)
  have hb1 : Below w.heap.size w w1 := hb0.grown hgr1 hb0.size (fun k hk => Nat.le_of_eq (Option.some.inj hk))
  simp only [Nat.zero_add, List.nil_append] at hown1
  have HNN : Hid (v' ≠ .slice none 0 0) := Lib.hid (fun e => absurd (hnn.1 e).1 (by intro h; cases h))
  clear hnn
  go_wp2
  go_ret
  exact ⟨_, rfl, ⟨hown1, HNN⟩, hb1⟩

/-- A blob in memory. -/
def BlobAt (w : World) (B blk : Nat) (l : List UInt8) (k : ByteArray) : Prop := B ≤ blk ∧ ∃ v, w.heap[blk]? = some (.cells #[v, .string k] 121 (0, 0)) ∧ BytesOwn w B v l
theorem BlobAt.lt {w : World} {B blk : Nat} {l : List UInt8} {k : ByteArray} (h : BlobAt w B blk l k) : blk < w.heap.size := by
  obtain ⟨_, v, hv, _⟩ := h
  exact (Array.getElem?_eq_some_iff.1 hv).1
theorem BlobAt.later {w w' : World} {B blk : Nat} {l : List UInt8} {k : ByteArray} (h : BlobAt w B blk l k) (hb : Below w.heap.size w w') : BlobAt w' B blk l k := by
  have hlt := h.lt
  obtain ⟨h1, v, hv, ho⟩ := h
  exact ⟨h1, v, (hb.block _ hlt).trans hv, ho.later hb⟩
theorem BlobAt.base {w : World} {B B' blk : Nat} {l : List UInt8} {k : ByteArray} (h : BlobAt w B blk l k) (hB : B' ≤ B) : BlobAt w B' blk l k := by
  obtain ⟨h1, v, hv, ho⟩ := h
  exact ⟨Nat.le_trans hB h1, v, hv, ho.base hB⟩

def NewOk (w : World) (l : List UInt8) (s : ByteArray) (e : Ending) (w' : World) : Prop := ∃ blk, e = .returned (.pointer (some ⟨blk, 0, none⟩)) ∧ BlobAt w' w.heap.size blk l ⟨(kindF s.data.toList).toArray⟩ ∧ Below w.heap.size w w'
set_option maxRecDepth 100000 in
set_option maxHeartbeats 1000000 in
theorem new_c (l : List UInt8) (b off cap : Nat) (s : ByteArray) (w : World) (hlen : l.length ≤ 140737488351232) (hby : BytesAt w b off l) (hbw : b < w.heap.size) (hs : s.size ≤ 1073741824) :
    Calls Tryz.prog 28 #[.slice (some ⟨b, off, none⟩) l.length cap, .string s] w (NewOk w l s) := by
  have hcl := clone_c l b off cap w hlen hby hbw
  have hk := fun W => kind_c s W hs
  clear hby hlen
  go_enter Tryz.func28, Tryz.ntmps28
  go_wp2_with fail
  refine hcl.mono ?_
  rintro e w1 ⟨v, rfl, hv, hb1⟩
  obtain ⟨g, c1, hve, _⟩ := hv.open
  have HV := Lib.hid hv
  clear hv hcl
  go_wp2_with fail
  refine (hk _).mono ?_
  rintro e w2 ⟨rfl, hb2⟩
  clear hk
  subst hve
  go_wp2
  go_ret
  have hB : Below w.heap.size w w2 := hb1.trans (hb2.mono hb1.size)
  refine ⟨_, rfl, ⟨hB.size, _, heap_last _ _, ?_⟩, hB.alloc hB.size _⟩
  exact (HV.out.later hb2).later ((Below.refl _ _).alloc (Nat.le_refl _) _)

theorem len_c (B blk : Nat) (l : List UInt8) (k : ByteArray) (w : World) (h : BlobAt w B blk l k) :
    Calls Tryz.prog 39 #[.pointer (some ⟨blk, 0, none⟩)] w fun e w' => e = .returned (.int .i64 (l.length : Int)) ∧ w = w' := by
  obtain ⟨h1, v, hv, ho⟩ := h
  obtain ⟨g, cap, rfl, _, _, _, hn, hm⟩ := ho.open
  have c0 : w.cell? ⟨blk, 0, none⟩ = some (.slice (some ⟨g, 0, none⟩) l.length cap) := Lib.cell_of_heap hv 0
  clear ho hv hm
  go_enter Tryz.func39, Tryz.ntmps39
  go_wp2
  go_ret
  exact ⟨rfl, rfl⟩
theorem bkind_c (B blk : Nat) (l : List UInt8) (k : ByteArray) (w : World) (h : BlobAt w B blk l k) :
    Calls Tryz.prog 90 #[.pointer (some ⟨blk, 0, none⟩)] w fun e w' => e = .returned (.string k) ∧ w = w' := by
  obtain ⟨h1, v, hv, ho⟩ := h
  have c1 : w.cell? ⟨blk, 1, none⟩ = some (.string k) := Lib.cell_of_heap hv 1
  clear ho hv
  go_enter Tryz.func90, Tryz.ntmps90
  go_wp2
  go_ret
  exact ⟨rfl, rfl⟩
set_option maxRecDepth 100000 in
theorem bytes_c (B blk : Nat) (l : List UInt8) (k : ByteArray) (w : World) (h : BlobAt w B blk l k) (hlen : l.length ≤ 140737488351232) :
    Calls Tryz.prog 91 #[.pointer (some ⟨blk, 0, none⟩)] w fun e w' => ∃ v, e = .returned v ∧ BytesOwn w' w.heap.size v l ∧ Below w.heap.size w w' := by
  obtain ⟨h1, v, hv, ho⟩ := h
  obtain ⟨g, cap, rfl, hby, hg, _, hn, hm⟩ := ho.open
  have c0 : w.cell? ⟨blk, 0, none⟩ = some (.slice (some ⟨g, 0, none⟩) l.length cap) := Lib.cell_of_heap hv 0
  have hcl := clone_c l g 0 cap w hlen hby hg
  clear ho hv hm hlen hby
  go_enter Tryz.func91, Tryz.ntmps91
  go_wp2_with fail
  refine hcl.mono ?_
  rintro e w1 ⟨v, rfl, hv, hb1⟩
  have HV := Lib.hid hv
  clear hv hcl
  go_wp2
  go_ret
  exact ⟨_, rfl, HV.out, hb1⟩
end Go.Proofs.YtibgiohijknmbaaGreatDoor
