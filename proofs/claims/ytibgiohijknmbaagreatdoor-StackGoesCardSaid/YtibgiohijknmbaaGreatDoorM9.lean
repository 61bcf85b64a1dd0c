/-
  Joined texts: Blob, Tab, Tab2, Tab3.
-/
import Derived.Test.YtibgiohijknmbaaGreatDoorM3
import Derived.Test.YtibgiohijknmbaaGreatDoorM4
import Derived.Test.YtibgiohijknmbaaGreatDoorM1
import Derived.Laws.MakeOwn
/-
  blob.Kind, blob.New, Len, and slices.Clone of bytes.
-/
namespace Go.Proofs.YtibgiohijknmbaaGreatDoor
open Go.RowKit
set_option linter.unusedVariables false
set_option linter.unusedSimpArgs false

def kindOk (c : UInt8) : Bool := decide (32 ≤ c.toNat ∧ c.toNat ≤ 126)
def kindF (l : List UInt8) : List UInt8 := if l.all kindOk = true then lowerL l else []

set_option maxRecDepth 100000 in
set_option maxHeartbeats 1000000 in
theorem kind_c (s : ByteArray) (w : World) (hs : s.size ≤ 1073741824) :
    Calls Tryz.prog 62 #[.string s] w fun e w' => e = .returned (.string ⟨(kindF s.data.toList).toArray⟩) ∧ Below w.heap.size w w' := by
  unfold kindF
  generalize hres : (if s.data.toList.all kindOk = true then lowerL s.data.toList else []) = res
  have HR := Lib.hid hres
  clear hres
  go_enter Tryz.func62, Tryz.ntmps62
  go_wp2
  have HB : Hid (∀ k : Nat, k < s.size → ((s.data.toList.getD k 0).toNat : Int) = sAt s k) := fun k _ => rfl
  go_loopw [6] (fun i wr => ∃ k : Nat, k ≤ s.size ∧ i = .int .i64 k ∧ wr = w ∧ Hid (∀ j, j < k → kindOk (s.data.toList.getD j 0) = true)) (fun i _ => s.size - (intOf i).toNat)
  case atStart => exact ⟨0, Nat.zero_le _, rfl, rfl, fun j hj => absurd hj (Nat.not_lt_zero _)⟩
  case round =>
    obtain ⟨k, hk, rfl, rfl, hall⟩ := hrel
    by_cases hlt : k < s.size
    · have hlt' : (k : Int) < (s.size : Int) := by omega
      have hkl : k < s.data.toList.length := by rw [Array.length_toList]; exact hlt
      have hget : ((s[k]'hlt).toNat : Int) = sAt s k := by
        unfold sAt
        rw [List.getD_eq_getElem?_getD, List.getElem?_eq_getElem hkl]
        rfl
      have hbyte : kindOk (s.data.toList.getD k 0) = decide (32 ≤ sAt s k ∧ sAt s k ≤ 126) := by
        unfold kindOk sAt
        congr 1
        rw [eq_iff_iff]
        omega
      have hmem : s.data.toList.getD k 0 ∈ s.data.toList := by
        rw [List.getD_eq_getElem?_getD, List.getElem?_eq_getElem hkl]; exact List.getElem_mem _
      have HM := Lib.hid hmem
      clear hmem hkl
      by_cases h : 32 ≤ sAt s k ∧ sAt s k ≤ 126
      · have hall2 : Hid (∀ j, j < k + 1 → kindOk (s.data.toList.getD j 0) = true) := fun j hj => by
          by_cases e : j = k
          · subst e; rw [hbyte]; simpa using h
          · exact hall.out j (by omega)
        obtain ⟨ha, hb⟩ := h
        have ha' : ¬ sAt s k < 32 := by omega
        have hb' : ¬ 126 < sAt s k := by omega
        clear hbyte
        go_wp2
        exact ⟨⟨k + 1, by omega, by go_num, trivial, hall2⟩, by simp [intOf]; omega⟩
      · have hno : s.data.toList.all kindOk = false := by
          rw [List.all_eq_false]
          refine ⟨_, HM.out, ?_⟩
          rw [hbyte]
          simpa using h
        have hr := HR.out
        rw [hno] at hr
        simp only [Bool.false_eq_true, if_false] at hr
        subst hr
        clear hbyte hno
        by_cases ha : sAt s k < 32
        · go_wp2
          go_ret
          exact ⟨rfl, Below.refl _ _⟩
        · have hb : 126 < sAt s k := by omega
          clear h
          go_wp2
          go_ret
          exact ⟨rfl, Below.refl _ _⟩
    · have hyes : s.data.toList.all kindOk = true := by
        rw [List.all_eq_true]
        intro x hx
        obtain ⟨j, hj, rfl⟩ := List.getElem_of_mem hx
        have hj' : j < s.size := by rw [Array.length_toList] at hj; exact hj
        have := hall.out j (by omega)
        rwa [List.getD_eq_getElem?_getD, List.getElem?_eq_getElem hj] at this
      have hr := HR.out
      rw [hyes, if_pos rfl] at hr
      subst hr
      have hlt' : ¬ (k : Int) < (s.size : Int) := by omega
      clear hyes
      go_wp2_with (go_at_call 104; refine (lower_c s _ (by omega)).mono ?_; rintro e w2 ⟨rfl, hb2⟩)
      go_ret
      exact ⟨rfl, hb2⟩

/-- Bytes that the call owns. -/
def BytesOwn (w : World) (B : Nat) (v : Value) (l : List UInt8) : Prop := w.ownsRow B 5 1 v l.length (byteV l)
theorem BytesOwn.later {w w' : World} {B : Nat} {v : Value} {l : List UInt8} (h : BytesOwn w B v l) (k : Below w.heap.size w w') : BytesOwn w' B v l := own_later h k
theorem BytesOwn.base {w : World} {B B' : Nat} {v : Value} {l : List UInt8} (h : BytesOwn w B v l) (hB : B' ≤ B) : BytesOwn w B' v l := by
  refine ⟨h.1, ?_⟩
  rcases h.2 with h2 | ⟨g, cap, cur, hv, hg, r⟩
  · exact Or.inl h2
  · exact Or.inr ⟨g, cap, cur, hv, Nat.le_trans hB hg, r⟩
/-- Bytes that are read, at a slice's address. -/
def SrcAt (w : World) (a : Option Addr) (cap : Nat) (l : List UInt8) : Prop := (a = none ∧ cap = 0 ∧ l = []) ∨ ∃ b off, a = some ⟨b, off, none⟩ ∧ BytesAt w b off l ∧ b < w.heap.size
theorem SrcAt.later {w w' : World} {a : Option Addr} {cap : Nat} {l : List UInt8} (h : SrcAt w a cap l) (hb : Below w.heap.size w w') : SrcAt w' a cap l := by
  rcases h with h | ⟨b, off, h1, h2, h3⟩
  · exact Or.inl h
  · exact Or.inr ⟨b, off, h1, h2.below hb h3, Nat.lt_of_lt_of_le h3 hb.size⟩
theorem BytesOwn.open {w : World} {B : Nat} {v : Value} {l : List UInt8} (h : BytesOwn w B v l) :
    ∃ a cap, v = .slice a l.length cap ∧ SrcAt w a cap l ∧ l.length ≤ cap ∧ cap ≤ maxLen := by
  rcases h.2 with ⟨hv, h0⟩ | ⟨g, cap, cur, hv, hg, hh, hn, hm, hs, ht⟩
  · exact ⟨none, 0, by rw [hv, h0], Or.inl ⟨rfl, rfl, List.length_eq_zero_iff.1 h0⟩, by omega, by unfold maxLen; omega⟩
  · refine ⟨some ⟨g, 0, none⟩, cap, hv, Or.inr ⟨g, 0, rfl, ?_, (Array.getElem?_eq_some_iff.1 hh).1⟩, hn, hm⟩
    intro j hj
    have := h.cells (g := g) (by rw [hv]; rfl) j (.int .u8 ((l.getD j 0).toNat : Int)) (by simp [byteV, List.getD_eq_getElem?_getD, List.getElem?_eq_getElem hj])
    rw [addr_add0] at this
    rw [Nat.zero_add, this]
theorem addr_addn (b o j : Nat) : (⟨b, o, none⟩ : Addr).add j = ⟨b, o + j, none⟩ := by unfold Addr.add; split <;> simp_all
theorem uinfo : (Tryz.prog.info? 5).map (fun i => (i.zero, i.size, i.bytes)) = some (some (.int .u8 0), 1, 1) := by kernel_rfl
set_option maxRecDepth 100000 in
set_option maxHeartbeats 1000000 in
theorem clone1_c (l : List UInt8) (b off cap : Nat) (w : World) (hlen : l.length ≤ 140737488351232) (hby : BytesAt w b off l) (hbw : b < w.heap.size) :
    Calls Tryz.prog 61 #[.slice (some ⟨b, off, none⟩) l.length cap] w fun e w' => ∃ v, e = .returned v ∧ BytesOwn w' w.heap.size v l ∧ Below w.heap.size w w' := by
  obtain ⟨i0, hi, hz0, hz1, hz2⟩ := info_parts uinfo
  have HBY := Lib.hid hby
  have HL := Lib.hid hlen
  have hq : ∀ (w : World) (a : Option Addr) (n c : Nat), (binOp .eql 29 (.slice a n c) (.slice none 0 0)).run Tryz.prog w = .ok (.bool a.isNone) w := fun w a n c => Lib.run_eql_slice_nil w 29 5 a n c 0 0 Tryz.underlying29
  clear hby hlen
  go_enter Tryz.func61, Tryz.ntmps61
  have hb0 : Below w.heap.size w (w.alloc (.cells #[] 5)) := (Below.refl _ _).alloc (Nat.le_refl _) _
  have hown : (w.alloc (.cells #[] 5)).ownsRow w.heap.size 5 1 (.slice (some ⟨w.heap.size, 0, none⟩) 0 0) 0 [] := by
    refine ⟨rfl, .inr ⟨w.heap.size, 0, #[], rfl, Nat.le_refl _, heap_last _ _, Nat.le_refl _, by unfold maxLen; omega, rfl, rfl⟩⟩
  have hcells : ∀ j u, (byteV l)[j]? = some u → (w.alloc (.cells #[] 5)).cell? ((⟨b, off, none⟩ : Addr).add j) = some u := fun j u hu => by
    have hj : j < l.length := by
      have := (List.getElem?_eq_some_iff.1 hu).1
      rwa [byteV_length] at this
    have h1 := (HBY.out.below hb0 hbw) j hj
    have e : (⟨b, off, none⟩ : Addr).add j = ⟨b, off + j, none⟩ := addr_addn b off j
    rw [e, h1, ← hu]
    simp [byteV, List.getD_eq_getElem?_getD, List.getElem?_eq_getElem hj]
  have hone : ∀ u ∈ byteV l, u.oneCell' = true := fun u hu => by
    unfold byteV at hu
    obtain ⟨x, _, rfl⟩ := List.mem_map.1 hu
    rfl
  have HO := Lib.hid hown
  have HCE := Lib.hid hcells
  have HON := Lib.hid hone
  clear hown hcells hone
  go_wp2_with (at_builtin; refine wpList_append_own _ rfl _ _ 29 rfl w.heap.size 5 i0 (.int .u8 0) 1 1 Tryz.underlying29 hi hz0 hz1 hz2 rfl (by decide) _ 0 [] rfl HO.out ⟨b, off, none⟩ l.length cap (byteV l) rfl (by rw [byteV_length, Nat.mul_one]) HCE.out HON.out (by have := HL.out; unfold maxLen; omega) (by have := HL.out; omega) hb0.size ?_; intro v' w1 hown1 hgr1 hnn)
  have hb1 : Below w.heap.size w w1 := hb0.grown hgr1 hb0.size (fun k hk => Nat.le_of_eq (Option.some.inj hk))
  simp only [Nat.zero_add, List.nil_append] at hown1
  clear hnn
  go_wp2
  go_ret
  exact ⟨_, rfl, hown1, hb1⟩
set_option maxRecDepth 100000 in
theorem clone0_c (w : World) :
    Calls Tryz.prog 61 #[.slice none 0 0] w fun e w' => e = .returned (.slice none 0 0) ∧ Below w.heap.size w w' := by
  have hq : ∀ (w : World) (a : Option Addr) (n c : Nat), (binOp .eql 29 (.slice a n c) (.slice none 0 0)).run Tryz.prog w = .ok (.bool a.isNone) w := fun w a n c => Lib.run_eql_slice_nil w 29 5 a n c 0 0 Tryz.underlying29
  have hb0 : Below w.heap.size w (w.alloc (.cells #[] 5)) := (Below.refl _ _).alloc (Nat.le_refl _) _
  go_enter Tryz.func61, Tryz.ntmps61
  go_wp2
  go_ret
  exact ⟨rfl, by first | exact Below.refl _ _ | exact hb0⟩
theorem clone_c (l : List UInt8) (a : Option Addr) (cap : Nat) (w : World) (hlen : l.length ≤ 140737488351232) (hsrc : SrcAt w a cap l) :
    Calls Tryz.prog 61 #[.slice a l.length cap] w fun e w' => ∃ v, e = .returned v ∧ BytesOwn w' w.heap.size v l ∧ Below w.heap.size w w' := by
  rcases hsrc with ⟨rfl, rfl, rfl⟩ | ⟨b, off, rfl, hby, hbw⟩
  · refine (clone0_c w).mono ?_
    rintro e w' ⟨rfl, hb⟩
    exact ⟨_, rfl, World.ownsRow_nil _ _ _ _, hb⟩
  · exact clone1_c l b off cap w hlen hby hbw

/-- A blob in memory. -/
def BlobAt (w : World) (B blk : Nat) (l : List UInt8) (k : ByteArray) : Prop := B ≤ blk ∧ ∃ v, w.heap[blk]? = some (.cells #[v, .string k] 121 (0, 0)) ∧ BytesOwn w B v l
theorem BlobAt.lt {w : World} {B blk : Nat} {l : List UInt8} {k : ByteArray} (h : BlobAt w B blk l k) : blk < w.heap.size := by
  obtain ⟨_, v, hv, _⟩ := h
  exact (Array.getElem?_eq_some_iff.1 hv).1
theorem BlobAt.later {w w' : World} {B blk : Nat} {l : List UInt8} {k : ByteArray} (h : BlobAt w B blk l k) (hb : Below w.heap.size w w') : BlobAt w' B blk l k := by
  have hlt := h.lt
  obtain ⟨h1, v, hv, ho⟩ := h
  exact ⟨h1, v, (hb.block _ hlt).trans hv, ho.later hb⟩
theorem BlobAt.base {w : World} {B B' blk : Nat} {l : List UInt8} {k : ByteArray} (h : BlobAt w B blk l k) (hB : B' ≤ B) : BlobAt w B' blk l k := by
  obtain ⟨h1, v, hv, ho⟩ := h
  exact ⟨Nat.le_trans hB h1, v, hv, ho.base hB⟩

def NewOk (w : World) (l : List UInt8) (s : ByteArray) (e : Ending) (w' : World) : Prop := ∃ blk, e = .returned (.pointer (some ⟨blk, 0, none⟩)) ∧ BlobAt w' w.heap.size blk l ⟨(kindF s.data.toList).toArray⟩ ∧ Below w.heap.size w w'
set_option maxRecDepth 100000 in
set_option maxHeartbeats 1000000 in
theorem new_c (l : List UInt8) (a : Option Addr) (cap : Nat) (s : ByteArray) (w : World) (hlen : l.length ≤ 140737488351232) (hsrc : SrcAt w a cap l) (hs : s.size ≤ 1073741824) :
    Calls Tryz.prog 28 #[.slice a l.length cap, .string s] w (NewOk w l s) := by
  have hcl := clone_c l a cap w hlen hsrc
  have hk := fun W => kind_c s W hs
  clear hsrc hlen
  go_enter Tryz.func28, Tryz.ntmps28
  go_wp2_with fail
  refine hcl.mono ?_
  rintro e w1 ⟨v, rfl, hv, hb1⟩
  obtain ⟨g, c1, hve, _⟩ := hv.open
  have HV := Lib.hid hv
  clear hv hcl
  go_wp2_with fail
  refine (hk _).mono ?_
  rintro e w2 ⟨rfl, hb2⟩
  clear hk
  subst hve
  go_wp2
  go_ret
  have hB : Below w.heap.size w w2 := hb1.trans (hb2.mono hb1.size)
  refine ⟨_, rfl, ⟨hB.size, _, heap_last _ _, ?_⟩, hB.alloc hB.size _⟩
  exact (HV.out.later hb2).later ((Below.refl _ _).alloc (Nat.le_refl _) _)

theorem len_c (B blk : Nat) (l : List UInt8) (k : ByteArray) (w : World) (h : BlobAt w B blk l k) :
    Calls Tryz.prog 39 #[.pointer (some ⟨blk, 0, none⟩)] w fun e w' => e = .returned (.int .i64 (l.length : Int)) ∧ w = w' := by
  obtain ⟨h1, v, hv, ho⟩ := h
  obtain ⟨a, cap, rfl, _, hn, hm⟩ := ho.open
  have c0 : w.cell? ⟨blk, 0, none⟩ = some (.slice a l.length cap) := Lib.cell_of_heap hv 0
  clear ho hv hm
  go_enter Tryz.func39, Tryz.ntmps39
  go_wp2
  go_ret
  exact ⟨rfl, rfl⟩
theorem bkind_c (B blk : Nat) (l : List UInt8) (k : ByteArray) (w : World) (h : BlobAt w B blk l k) :
    Calls Tryz.prog 90 #[.pointer (some ⟨blk, 0, none⟩)] w fun e w' => e = .returned (.string k) ∧ w = w' := by
  obtain ⟨h1, v, hv, ho⟩ := h
  have c1 : w.cell? ⟨blk, 1, none⟩ = some (.string k) := Lib.cell_of_heap hv 1
  clear ho hv
  go_enter Tryz.func90, Tryz.ntmps90
  go_wp2
  go_ret
  exact ⟨rfl, rfl⟩
set_option maxRecDepth 100000 in
theorem bytes_c (B blk : Nat) (l : List UInt8) (k : ByteArray) (w : World) (h : BlobAt w B blk l k) (hlen : l.length ≤ 140737488351232) :
    Calls Tryz.prog 91 #[.pointer (some ⟨blk, 0, none⟩)] w fun e w' => ∃ v, e = .returned v ∧ BytesOwn w' w.heap.size v l ∧ Below w.heap.size w w' := by
  obtain ⟨h1, v, hv, ho⟩ := h
  obtain ⟨a, cap, rfl, hsrc, hn, hm⟩ := ho.open
  have c0 : w.cell? ⟨blk, 0, none⟩ = some (.slice a l.length cap) := Lib.cell_of_heap hv 0
  have hcl := clone_c l a cap w hlen hsrc
  clear ho hv hm hlen hsrc
  go_enter Tryz.func91, Tryz.ntmps91
  go_wp2_with fail
  refine hcl.mono ?_
  rintro e w1 ⟨v, rfl, hv, hb1⟩
  have HV := Lib.hid hv
  clear hv hcl
  go_wp2
  go_ret
  exact ⟨_, rfl, HV.out, hb1⟩
end Go.Proofs.YtibgiohijknmbaaGreatDoor

/-
  table: New, find, Get, Put, Handles, Del, over entries in memory.
-/
namespace Go.Proofs.YtibgiohijknmbaaGreatDoor
open Go.RowKit
set_option linter.unusedVariables false
set_option linter.unusedSimpArgs false

/-- A table's entries: a handle, and the block of what it tells. -/
abbrev Ents := List (Int × Nat)
def entV (es : Ents) : List Value := es.flatMap fun e => [.int .i64 e.1, .pointer (some ⟨e.2, 0, none⟩)]
theorem entV_length (es : Ents) : (entV es).length = es.length * 2 := by
  induction es with
  | nil => rfl
  | cons a t ih =>
    have : entV (a :: t) = [.int .i64 a.1, .pointer (some ⟨a.2, 0, none⟩)] ++ entV t := rfl
    rw [this, List.length_append, ih, List.length_cons]
    simp
    omega
theorem entV_get (es : Ents) (d : Int × Nat) : ∀ j, j < es.length → (entV es)[j * 2]? = some (.int .i64 (es.getD j d).1) ∧ (entV es)[j * 2 + 1]? = some (.pointer (some ⟨(es.getD j d).2, 0, none⟩)) := by
  induction es with
  | nil => intro j hj; exact absurd hj (Nat.not_lt_zero _)
  | cons a t ih =>
    intro j hj
    have e : entV (a :: t) = [.int .i64 a.1, .pointer (some ⟨a.2, 0, none⟩)] ++ entV t := rfl
    rw [e]
    cases j with
    | zero => exact ⟨rfl, rfl⟩
    | succ j =>
      have h := ih j (by simpa using hj)
      have e1 : (j + 1) * 2 = (j * 2) + 2 := by omega
      rw [e1]
      simp only [List.cons_append, List.nil_append, List.getElem?_cons_succ, List.getD_cons_succ]
      exact h
def RowE (w : World) (B : Nat) (lv : Value) (es : Ents) : Prop := w.ownsRow B 124 2 lv es.length (entV es)
def firstAt (p : Int × Nat → Bool) (es : Ents) : Int := if es.findIdx p < es.length then (es.findIdx p : Int) else -1

set_option maxRecDepth 100000 in
set_option maxHeartbeats 1000000 in
theorem idx_c (B : Nat) (lv : Value) (es : Ents) (hb : Nat) (h : Int) (w : World) (ho : RowE w B lv es) (hh : w.cell? ⟨hb, 0, none⟩ = some (.int .i64 h)) (hlt : hb < w.heap.size) (hn : es.length ≤ 1000000) :
    Calls Tryz.prog 116 #[lv, .func (.func 117) #[] #[.pointer (some ⟨hb, 0, none⟩)]] w fun e w' => e = .returned (.int .i64 (firstAt (fun e => e.1 == h) es)) ∧ Below w.heap.size w w' := by
  rcases ho.2 with ⟨hv, h0⟩ | ⟨g, cap, cur, hv, hg, hhp, hnc, hm, hs, ht⟩
  · subst hv
    have : es = [] := List.length_eq_zero_iff.1 h0
    subst this
    go_enter Tryz.func116, Tryz.ntmps116
    go_wp2
    refine wp_loop_rounds 1 ?_
    rw [rounds_succ]
    go_wp2
    go_ret
    exact ⟨rfl, Below.refl _ _⟩
  · subst hv
    have hgl : g < w.heap.size := (Array.getElem?_eq_some_iff.1 hhp).1
    have hcell : ∀ j, j < es.length → w.cell? ⟨g, j * 2, none⟩ = some (.int .i64 (es.getD j (0, 0)).1) ∧ w.cell? ⟨g, j * 2 + 1, none⟩ = some (.pointer (some ⟨(es.getD j (0, 0)).2, 0, none⟩)) := fun j hj => by
      obtain ⟨e1, e2⟩ := entV_get es (0, 0) j hj
      have c1 := ho.cells (g := g) rfl _ _ e1
      have c2 := ho.cells (g := g) rfl _ _ e2
      rw [addr_add0] at c1 c2
      exact ⟨c1, c2⟩
    have HCE := Lib.hid hcell
    clear hcell ho hs ht hhp
    go_enter Tryz.func116, Tryz.ntmps116
    go_wp2
    go_loopw [8] (fun i wr => ∃ k : Nat, k ≤ es.length ∧ i = .int .i64 k ∧ Below w.heap.size w wr ∧ Hid (∀ j, j < k → ((es.getD j (0, 0)).1 == h) = false)) (fun i _ => es.length - (intOf i).toNat)
    case atStart => exact ⟨0, Nat.zero_le _, rfl, Below.refl _ _, fun j hj => absurd hj (Nat.not_lt_zero _)⟩
    case round =>
      obtain ⟨k, hk, rfl, hbl, hall⟩ := hrel
      by_cases hlk : k < es.length
      · obtain ⟨c1, c2⟩ := HCE.out k hlk
        have d1 : wr.cell? ⟨g, k * 2, none⟩ = some (.int .i64 (es.getD k (0, 0)).1) := (hbl.cell (p := ⟨g, k * 2, none⟩) hgl).trans c1
        have d2 : wr.cell? ⟨g, k * 2 + 1, none⟩ = some (.pointer (some ⟨(es.getD k (0, 0)).2, 0, none⟩)) := (hbl.cell (p := ⟨g, k * 2 + 1, none⟩) hgl).trans c2
        have d3 : wr.cell? ⟨hb, 0, none⟩ = some (.int .i64 h) := (hbl.cell (p := ⟨hb, 0, none⟩) hlt).trans hh
        have hl2 : hb < wr.heap.size := Nat.lt_of_lt_of_le hlt hbl.size
        have hl3 : g < wr.heap.size := Nat.lt_of_lt_of_le hgl hbl.size
        have hal : Below w.heap.size w (wr.alloc (.cells #[.int .i64 (es.getD k (0, 0)).1, .pointer (some ⟨(es.getD k (0, 0)).2, 0, none⟩)] 124)) := hbl.alloc hbl.size _
        clear c1 c2
        obtain ⟨x, hx⟩ : ∃ x, x = (es.getD k (0, 0)).1 := ⟨_, rfl⟩
        obtain ⟨y, hy⟩ : ∃ y, y = (es.getD k (0, 0)).2 := ⟨_, rfl⟩
        rw [← hx, ← hy] at hal
        rw [← hx] at d1
        rw [← hy] at d2
        have HX := Lib.hid hx
        clear hx hy
        by_cases hxh : x = h
        · subst hxh
          have hfi : es.findIdx (fun e => e.1 == x) = k := by
            refine (List.findIdx_eq hlk).2 ⟨?_, fun j hj => ?_⟩
            · have := HX.out
              rw [List.getD_eq_getElem?_getD, List.getElem?_eq_getElem hlk] at this
              simp [this]
            · have := hall.out j hj
              rw [List.getD_eq_getElem?_getD, List.getElem?_eq_getElem (by omega)] at this
              simpa using this
          have hres : firstAt (fun e => e.1 == x) es = (k : Int) := by unfold firstAt; rw [hfi, if_pos hlk]
          have HRES := Lib.hid hres
          clear hfi hres
          go_wp2
          go_ret
          exact ⟨ret_i HRES.out.symm, hal⟩
        · have hall2 : Hid (∀ j, j < k + 1 → ((es.getD j (0, 0)).1 == h) = false) := fun j hj => by
            by_cases e : j = k
            · subst e; rw [← HX.out]; simpa using hxh
            · exact hall.out j (by omega)
          have hxh2 : (x == h) = false := by simpa using hxh
          clear hxh
          go_wp2
          exact ⟨⟨k + 1, by omega, by go_num, hal, hall2⟩, by simp [intOf]; omega⟩
      · obtain rfl : k = es.length := by omega
        have hfi : es.findIdx (fun e => e.1 == h) = es.length := by
          refine List.findIdx_eq_length.2 fun e he => ?_
          obtain ⟨j, hj, rfl⟩ := List.getElem_of_mem he
          have := hall.out j hj
          rw [List.getD_eq_getElem?_getD, List.getElem?_eq_getElem hj] at this
          simpa using this
        have hres : firstAt (fun e => e.1 == h) es = -1 := by unfold firstAt; rw [hfi, if_neg (Nat.lt_irrefl _)]
        have HRES := Lib.hid hres
        clear hfi hres
        go_wp2
        go_ret
        exact ⟨ret_i HRES.out.symm, hbl⟩
end Go.Proofs.YtibgiohijknmbaaGreatDoor

/-
  table: find, Get, Handles.
-/
namespace Go.Proofs.YtibgiohijknmbaaGreatDoor
open Go.RowKit
set_option linter.unusedVariables false
set_option linter.unusedSimpArgs false

/-- A table in memory. -/
def TabAt (w : World) (B tb : Nat) (es : Ents) (room last : Int) : Prop :=
  B ≤ tb ∧ es.length ≤ 64 ∧ ∃ lv, w.heap[tb]? = some (.cells #[lv, .int .i64 room, .int .i64 last] 127 (0, 0)) ∧ RowE w B lv es
theorem TabAt.lt {w : World} {B tb : Nat} {es : Ents} {room last : Int} (h : TabAt w B tb es room last) : tb < w.heap.size := by
  obtain ⟨_, _, v, hv, _⟩ := h
  exact (Array.getElem?_eq_some_iff.1 hv).1
theorem TabAt.later {w w' : World} {B tb : Nat} {es : Ents} {room last : Int} (h : TabAt w B tb es room last) (hb : Below w.heap.size w w') : TabAt w' B tb es room last := by
  have hlt := h.lt
  obtain ⟨h1, h2, v, hv, ho⟩ := h
  refine ⟨h1, h2, v, (hb.block _ hlt).trans hv, ?_⟩
  exact ho.kept (w' := w') (row := none) ⟨hb.os, hb.tape, hb.output, hb.size, fun i hi _ => hb.block i hi⟩ (by cases v.ownBlock <;> simp)
theorem firstAt_range (p : Int × Nat → Bool) (es : Ents) : -1 ≤ firstAt p es ∧ firstAt p es < es.length := by
  unfold firstAt
  split <;> omega
def getF (es : Ents) (h : Int) : Option Nat := (es.find? fun e => e.1 == h).map (·.2)
theorem getF_none {es : Ents} {h : Int} (hf : firstAt (fun e => e.1 == h) es < 0) : getF es h = none := by
  unfold firstAt at hf
  split at hf
  · omega
  · rename_i hn
    unfold getF
    rw [List.find?_eq_none.2]
    · rfl
    · intro e he
      have hle := List.findIdx_le_length (p := fun e : Int × Nat => e.1 == h) (xs := es)
      have := List.findIdx_eq_length.1 (Nat.le_antisymm hle (Nat.le_of_not_lt hn)) e he
      simpa using this
theorem getF_some {es : Ents} {h : Int} (hf : 0 ≤ firstAt (fun e => e.1 == h) es) : ∃ k : Nat, firstAt (fun e => e.1 == h) es = (k : Int) ∧ k < es.length ∧ getF es h = some (es.getD k (0, 0)).2 := by
  unfold firstAt at *
  split at hf
  · rename_i hlt
    refine ⟨_, by rw [if_pos hlt], hlt, ?_⟩
    unfold getF
    rw [List.find?_eq_getElem?_findIdx, List.getElem?_eq_getElem hlt, List.getD_eq_getElem?_getD, List.getElem?_eq_getElem hlt]
    rfl
  · omega

set_option maxRecDepth 100000 in
theorem find_c (B tb : Nat) (es : Ents) (room last h : Int) (w : World) (hT : TabAt w B tb es room last) :
    Calls Tryz.prog 63 #[.pointer (some ⟨tb, 0, none⟩), .int .i64 h] w fun e w' => e = .returned (.int .i64 (firstAt (fun e => e.1 == h) es)) ∧ Below w.heap.size w w' := by
  have hlt := hT.lt
  have hb0 : Below w.heap.size w (w.alloc (.cells #[.int .i64 h] 2)) := (Below.refl _ _).alloc (Nat.le_refl _) _
  have hT0 := hT.later hb0
  obtain ⟨_, hn, lv, hv, ho⟩ := hT
  obtain ⟨_, _, lv', hv', ho'⟩ := hT0
  have c0 : w.cell? ⟨tb, 0, none⟩ = some lv := Lib.cell_of_heap hv 0
  have hll : lv' = lv := by
    have e := (hb0.block _ hlt).trans hv
    rw [hv'] at e
    have e := Option.some.inj e
    injection e with e
    have := congrArg (fun a : Array Value => a[0]?) e
    simpa using this
  subst hll
  have hi := idx_c B lv' es w.heap.size h _ ho' (Lib.cell_of_heap (heap_last w _) 0) (by simp) (by omega)
  clear hv hv' ho ho' hn
  go_enter Tryz.func63, Tryz.ntmps63
  go_wp2_with fail
  refine hi.mono ?_
  rintro e w1 ⟨rfl, hb1⟩
  go_wp2
  go_ret
  exact ⟨rfl, hb0.trans (hb1.mono hb0.size)⟩

def optPtr (o : Option Nat) : Value := .pointer (o.map fun k => ⟨k, 0, none⟩)
set_option maxRecDepth 100000 in
theorem get_c (B tb : Nat) (es : Ents) (room last h : Int) (w : World) (hT : TabAt w B tb es room last) :
    Calls Tryz.prog 29 #[.pointer (some ⟨tb, 0, none⟩), .int .i64 h] w fun e w' => e = .returned (.tuple #[optPtr (getF es h), .bool (getF es h).isSome]) ∧ Below w.heap.size w w' := by
  have hf := find_c B tb es room last h w hT
  have hlt := hT.lt
  by_cases hneg : firstAt (fun e => e.1 == h) es < 0
  · rw [getF_none hneg]
    unfold optPtr
    simp only [Option.map_none, Option.isSome_none]
    generalize firstAt (fun e => e.1 == h) es = at_ at *
    clear hT
    go_enter Tryz.func29, Tryz.ntmps29
    go_wp2_with fail
    refine hf.mono ?_
    rintro e w1 ⟨rfl, hb1⟩
    go_wp2
    go_ret2
    exact ⟨rfl, hb1⟩
  · obtain ⟨k, hk, hkl, hg⟩ := getF_some (by omega : 0 ≤ firstAt (fun e => e.1 == h) es)
    rw [hk] at hf
    rw [hg]
    clear hk hneg
    unfold optPtr
    simp only [Option.map_some, Option.isSome_some]
    have hev := (entV_get es (0, 0) k hkl).2
    obtain ⟨blk, hblk⟩ : ∃ blk, (es.getD k (0, 0)).2 = blk := ⟨_, rfl⟩
    rw [hblk] at hev ⊢
    have HEV := Lib.hid hev
    have HT := Lib.hid hT
    clear hg hT hev hblk
    go_enter Tryz.func29, Tryz.ntmps29
    go_wp2_with fail
    refine hf.mono ?_
    rintro e w1 ⟨rfl, hb1⟩
    obtain ⟨_, hn, lv, hv, ho⟩ := HT.out.later hb1
    have c0 : w1.cell? ⟨tb, 0, none⟩ = some lv := Lib.cell_of_heap hv 0
    rcases ho.2 with ⟨_, h0⟩ | ⟨g, cap, cur, rfl, hg2, hhp, hnc, hm, hs, ht⟩
    · omega
    · have c2 := ho.cells (g := g) rfl _ _ HEV.out
      rw [addr_add0] at c2
      clear hv ho hs ht hhp
      have hkl' : (k : Int) < (es.length : Int) := by omega
      go_wp2
      go_ret2
      exact ⟨rfl, hb1⟩
end Go.Proofs.YtibgiohijknmbaaGreatDoor

/-
  table.Handles; stack.Bytes.
-/
namespace Go.Proofs.YtibgiohijknmbaaGreatDoor
open Go.RowKit
set_option linter.unusedVariables false
set_option linter.unusedSimpArgs false

def hanV (es : Ents) : List Value := es.map fun e => .int .i64 e.1
theorem linfo : (Tryz.prog.info? 2).map (fun i => (i.zero, i.size, i.bytes)) = some (some (.int .i64 0), 1, 8) := by kernel_rfl
set_option maxRecDepth 100000 in
set_option maxHeartbeats 1000000 in
theorem handles_c (B tb : Nat) (es : Ents) (room last : Int) (w : World) (hT : TabAt w B tb es room last) :
    Calls Tryz.prog 38 #[.pointer (some ⟨tb, 0, none⟩)] w fun e w' => ∃ v, e = .returned v ∧ w'.ownsRow w.heap.size 2 1 v es.length (hanV es) ∧ Below w.heap.size w w' := by
  have hlt := hT.lt
  obtain ⟨_, hn, lv, hv, ho⟩ := hT
  obtain ⟨i0, hi, hz0, hz1, hz2⟩ := info_parts linfo
  have c0 : w.cell? ⟨tb, 0, none⟩ = some lv := Lib.cell_of_heap hv 0
  clear hv
  have hdata : ∃ a cap, lv = .slice a es.length cap ∧ Hid (es.length ≤ cap ∧ ∀ j, j < es.length → ∃ g, a = some ⟨g, 0, none⟩ ∧ g < w.heap.size ∧ w.cell? ⟨g, j * 2, none⟩ = some (.int .i64 (es.getD j (0, 0)).1) ∧ w.cell? ⟨g, j * 2 + 1, none⟩ = some (.pointer (some ⟨(es.getD j (0, 0)).2, 0, none⟩))) := by
    rcases ho.2 with ⟨hlv, h0⟩ | ⟨g, cap, cur, hlv, hg, hhp, hnc, hm, hs, ht⟩
    · exact ⟨none, 0, by rw [hlv, h0], by omega, fun j hj => by omega⟩
    · refine ⟨some ⟨g, 0, none⟩, cap, hlv, hnc, fun j hj => ⟨g, rfl, (Array.getElem?_eq_some_iff.1 hhp).1, ?_⟩⟩
      obtain ⟨e1, e2⟩ := entV_get es (0, 0) j hj
      have c1 := ho.cells (g := g) (by rw [hlv]; rfl) _ _ e1
      have c2 := ho.cells (g := g) (by rw [hlv]; rfl) _ _ e2
      rw [addr_add0] at c1 c2
      exact ⟨c1, c2⟩
  obtain ⟨a, cap, rfl, HD⟩ := hdata
  clear ho
  go_enter Tryz.func38, Tryz.ntmps38
  go_wp2
  go_loopw [3, 13] (fun out i wr => ∃ k : Nat, k ≤ es.length ∧ i = .int .i64 k ∧ wr.ownsRow w.heap.size 2 1 out (es.take k).length (hanV (es.take k)) ∧ Below w.heap.size w wr) (fun _ i _ => es.length - (intOf i).toNat)
  case atStart => exact ⟨0, Nat.zero_le _, rfl, World.ownsRow_nil _ _ _ _, Below.refl _ _⟩
  case round =>
    obtain ⟨k, hk, rfl, hown, hbl⟩ := hrel
    by_cases hlk : k < es.length
    · obtain ⟨g, rfl, hgl, c1, c2⟩ := HD.out.2 k hlk
      have hcap := HD.out.1
      have d1 : wr.cell? ⟨g, k * 2, none⟩ = some (.int .i64 (es.getD k (0, 0)).1) := (hbl.cell (p := ⟨g, k * 2, none⟩) hgl).trans c1
      have d2 : wr.cell? ⟨g, k * 2 + 1, none⟩ = some (.pointer (some ⟨(es.getD k (0, 0)).2, 0, none⟩)) := (hbl.cell (p := ⟨g, k * 2 + 1, none⟩) hgl).trans c2
      have hl3 : g < wr.heap.size := Nat.lt_of_lt_of_le hgl hbl.size
      have hts : es.take (k + 1) = es.take k ++ [es.getD k (0, 0)] := by
        rw [List.take_succ_eq_append_getElem hlk, List.getD_eq_getElem?_getD, List.getElem?_eq_getElem hlk]
        rfl
      have HT := Lib.hid hts
      clear hts c1 c2
      obtain ⟨en, hen⟩ : ∃ en, en = es.getD k (0, 0) := ⟨_, rfl⟩
      rw [← hen] at d1 d2
      have HEN := Lib.hid hen
      clear hen
      have hlen : (es.take k).length = k := by rw [List.length_take]; omega
      rw [hlen] at hown
      have hown' := (hown.alloc (.cells #[.int .i64 en.1, .pointer (some ⟨en.2, 0, none⟩)] 124)).alloc (.cells #[.int .i64 en.1] 2)
      have hbl' := (hbl.alloc hbl.size (.cells #[.int .i64 en.1, .pointer (some ⟨en.2, 0, none⟩)] 124)).alloc (by simp; have := hbl.size; omega) (.cells #[.int .i64 en.1] 2)
      have HO := Lib.hid hown'
      clear hown hown' hlen
      go_wp2_with (at_builtin; refine wpList_append_own _ rfl _ _ 92 rfl w.heap.size 2 i0 (.int .i64 0) 1 8 Tryz.underlying92 hi hz0 hz1 hz2 rfl (by decide) _ k (hanV (es.take k)) rfl HO.out ⟨wr.heap.size + 1, 0, none⟩ 1 1 [.int .i64 en.1] rfl rfl ?c1 ?c2 ?c3 ?c4 ?c5 ?c6)
      case c1 =>
        intro j u hu
        cases j with
        | zero =>
          rw [addr_add0]
          have e := heap_last (wr.alloc (.cells #[.int .i64 en.1, .pointer (some ⟨en.2, 0, none⟩)] 124)) (.cells #[.int .i64 en.1] 2)
          rw [show (wr.alloc (.cells #[.int .i64 en.1, .pointer (some ⟨en.2, 0, none⟩)] 124)).heap.size = wr.heap.size + 1 by simp] at e
          rw [Lib.cell_of_heap e 0]
          exact hu
        | succ j => simp at hu
      case c2 => intro u hu; rw [List.mem_singleton] at hu; subst hu; rfl
      case c3 => unfold maxLen; omega
      case c4 => omega
      case c5 => exact hbl'.size
      case c6 =>
        intro v' w1 hown1 hgr1 _
        have hb1 : Below w.heap.size w w1 := hbl'.grown hgr1 hbl'.size (fun q hq => (HO.out.lt q hq).1)
        have hown2 : w1.ownsRow w.heap.size 2 1 v' (es.take (k + 1)).length (hanV (es.take (k + 1))) := by
          have hl : (es.take (k + 1)).length = k + 1 := by rw [List.length_take]; omega
          rw [hl, HT.out, ← HEN.out]
          unfold hanV at *
          rw [List.map_append]
          exact hown1
        clear hown1 hgr1 HO HT hbl hbl'
        go_wp2
        exact ⟨⟨k + 1, by omega, by go_num, hown2, hb1⟩, by simp [intOf]; omega⟩
    · obtain rfl : k = es.length := by omega
      rw [List.take_length] at hown
      go_wp2
      go_ret
      exact ⟨_, rfl, hown, hbl⟩
end Go.Proofs.YtibgiohijknmbaaGreatDoor
