/-
  stack.Bytes, over a stack in memory.
-/
import Derived.Test.YtibgiohijknmbaaGreatDoorTab3
namespace Go.Proofs.YtibgiohijknmbaaGreatDoor
open Go.RowKit
set_option linter.unusedVariables false
set_option linter.unusedSimpArgs false

/-- A stack's own cells. -/
def StackAt (w : World) (B s tb sb mb : Nat) (most : Int) : Prop :=
  B ≤ s ∧ w.heap[s]? = some (.cells #[.pointer (some ⟨tb, 0, none⟩), .pointer (some ⟨sb, 0, none⟩), .pointer (some ⟨mb, 0, none⟩), .int .i64 most] 83 (0, 0))
theorem StackAt.lt {w : World} {B s tb sb mb : Nat} {most : Int} (h : StackAt w B s tb sb mb most) : s < w.heap.size := (Array.getElem?_eq_some_iff.1 h.2).1
theorem StackAt.later {w w' : World} {B s tb sb mb : Nat} {most : Int} (h : StackAt w B s tb sb mb most) (hb : Below w.heap.size w w') : StackAt w' B s tb sb mb most := ⟨h.1, (hb.block _ h.lt).trans h.2⟩

/-- The blobs that a table's entries tell: their bytes and kinds, by their blocks. -/
def BlobsAt (w : World) (B : Nat) (es : Ents) (bs : Nat → List UInt8) (ks : Nat → ByteArray) : Prop := ∀ e ∈ es, BlobAt w B e.2 (bs e.2) (ks e.2) ∧ (bs e.2).length ≤ 1048576
theorem BlobsAt.later {w w' : World} {B : Nat} {es : Ents} {bs : Nat → List UInt8} {ks : Nat → ByteArray} (h : BlobsAt w B es bs ks) (hb : Below w.heap.size w w') : BlobsAt w' B es bs ks :=
  fun e he => ⟨(h e he).1.later hb, (h e he).2⟩
def lenAt (es : Ents) (bs : Nat → List UInt8) (h : Int) : Int := ((bs ((getF es h).getD 0)).length : Int)
def sumTo (es : Ents) (bs : Nat → List UInt8) (l : Ents) : Int := (l.map fun e => lenAt es bs e.1).sum
theorem sumTo_snoc (es : Ents) (bs : Nat → List UInt8) (l : Ents) (e : Int × Nat) : sumTo es bs (l ++ [e]) = sumTo es bs l + lenAt es bs e.1 := by simp [sumTo]
theorem getF_mem {es : Ents} {e : Int × Nat} (he : e ∈ es) : ∃ e' ∈ es, getF es e.1 = some e'.2 := by
  unfold getF
  cases h : es.find? fun x => x.1 == e.1 with
  | none =>
    have := List.find?_eq_none.1 h e he
    simp at this
  | some x => exact ⟨x, List.mem_of_find?_eq_some h, rfl⟩
theorem sumTo_bound (es : Ents) (bs : Nat → List UInt8) (hbs : ∀ e ∈ es, (bs e.2).length ≤ 1048576) (l : Ents) (hl : ∀ e ∈ l, e ∈ es) : 0 ≤ sumTo es bs l ∧ sumTo es bs l ≤ (l.length : Int) * 1048576 := by
  induction l with
  | nil => simp [sumTo]
  | cons a t ih =>
    have h := ih (fun e he => hl e (List.mem_cons_of_mem _ he))
    obtain ⟨e', he', hg⟩ := getF_mem (hl a (List.mem_cons_self ..))
    have h2 := hbs e' he'
    have : sumTo es bs (a :: t) = lenAt es bs a.1 + sumTo es bs t := by simp [sumTo]
    have h3 : lenAt es bs a.1 = ((bs e'.2).length : Int) := by unfold lenAt; rw [hg]; rfl
    rw [this, h3, List.length_cons]
    omega

set_option maxRecDepth 100000 in
set_option maxHeartbeats 1000000 in
theorem sbytes_c (B s tb sb mb : Nat) (most : Int) (es : Ents) (room last : Int) (bs : Nat → List UInt8) (ks : Nat → ByteArray) (w : World) (hS : StackAt w B s tb sb mb most) (hT : TabAt w B tb es room last) (hB : BlobsAt w B es bs ks) :
    Calls Tryz.prog 16 #[.pointer (some ⟨s, 0, none⟩)] w fun e w' => e = .returned (.int .i64 (sumTo es bs es)) ∧ Below w.heap.size w w' := by
  have hslt := hS.lt
  have hn := hT.2.1
  have c0 : w.cell? ⟨s, 0, none⟩ = some (.pointer (some ⟨tb, 0, none⟩)) := Lib.cell_of_heap hS.2 0
  have hbs : ∀ e ∈ es, (bs e.2).length ≤ 1048576 := fun e he => (hB e he).2
  have hh := handles_c B tb es room last w hT
  have HT := Lib.hid hT
  have HB := Lib.hid hB
  have HBS := Lib.hid hbs
  clear hT hB hS hbs
  go_enter Tryz.func16, Tryz.ntmps16
  go_wp2_with fail
  refine hh.mono ?_
  rintro e w1 ⟨v, rfl, ho, hb1⟩
  have hdata : ∃ a cap, v = .slice a es.length cap ∧ Hid (es.length ≤ cap ∧ ∀ j, j < es.length → ∃ g, a = some ⟨g, 0, none⟩ ∧ g < w1.heap.size ∧ w1.cell? ⟨g, j, none⟩ = some (.int .i64 (es.getD j (0, 0)).1)) := by
    rcases ho.2 with ⟨hlv, h0⟩ | ⟨g, cap, cur, hlv, hg, hhp, hnc, hm, hs, ht⟩
    · exact ⟨none, 0, by rw [hlv, h0], by omega, fun j hj => by omega⟩
    · refine ⟨some ⟨g, 0, none⟩, cap, hlv, hnc, fun j hj => ⟨g, rfl, (Array.getElem?_eq_some_iff.1 hhp).1, ?_⟩⟩
      have c1 := ho.cells (g := g) (by rw [hlv]; rfl) j (.int .i64 (es.getD j (0, 0)).1) (by simp [hanV, List.getD_eq_getElem?_getD, List.getElem?_eq_getElem hj])
      rw [addr_add0] at c1
      exact c1
  obtain ⟨a, cap, rfl, HD⟩ := hdata
  clear ho hh
  go_wp2
  go_loopw [3, 16] (fun n i wr => ∃ k : Nat, k ≤ es.length ∧ i = .int .i64 k ∧ n = .int .i64 (sumTo es bs (es.take k)) ∧ Below w1.heap.size w1 wr) (fun _ i _ => es.length - (intOf i).toNat)
  case atStart => exact ⟨0, Nat.zero_le _, rfl, rfl, Below.refl _ _⟩
  case round =>
    obtain ⟨k, hk, rfl, rfl, hbl⟩ := hrel
    have hB := hb1.trans (hbl.mono hb1.size)
    by_cases hlk : k < es.length
    · obtain ⟨g, rfl, hgl, c1⟩ := HD.out.2 k hlk
      have hcap := HD.out.1
      have d1 : wr.cell? ⟨g, k, none⟩ = some (.int .i64 (es.getD k (0, 0)).1) := (hbl.cell (p := ⟨g, k, none⟩) hgl).trans c1
      have d0 : wr.cell? ⟨s, 0, none⟩ = some (.pointer (some ⟨tb, 0, none⟩)) := (hB.cell (p := ⟨s, 0, none⟩) hslt).trans c0
      have hmem : es.getD k (0, 0) ∈ es := by
        rw [List.getD_eq_getElem?_getD, List.getElem?_eq_getElem hlk]; exact List.getElem_mem _
      have hts : es.take (k + 1) = es.take k ++ [es.getD k (0, 0)] := by
        rw [List.take_succ_eq_append_getElem hlk, List.getD_eq_getElem?_getD, List.getElem?_eq_getElem hlk]
        rfl
      obtain ⟨e', he', hgf⟩ := getF_mem hmem
      have hsn := sumTo_snoc es bs (es.take k) (es.getD k (0, 0))
      rw [← hts] at hsn
      have hla : lenAt es bs (es.getD k (0, 0)).1 = ((bs e'.2).length : Int) := by unfold lenAt; rw [hgf]; rfl
      rw [hla] at hsn
      have hbd := sumTo_bound es bs HBS.out (es.take k) (fun e he => List.mem_of_mem_take he)
      have hlen : (es.take k).length = k := by rw [List.length_take]; omega
      rw [hlen] at hbd
      have hb2 := HBS.out e' he'
      have hget := get_c B tb es room last (es.getD k (0, 0)).1 wr (HT.out.later hB)
      rw [hgf] at hget
      unfold optPtr at hget
      simp only [Option.map_some, Option.isSome_some] at hget
      have hlc := fun W (h : BlobAt W B e'.2 (bs e'.2) (ks e'.2)) => len_c B e'.2 (bs e'.2) (ks e'.2) W h
      have hba := (HB.out e' he').1.later hB
      obtain ⟨hd, hhd⟩ : ∃ hd, hd = (es.getD k (0, 0)).1 := ⟨_, rfl⟩
      obtain ⟨S, hSS⟩ : ∃ S, S = sumTo es bs (es.take k) := ⟨_, rfl⟩
      rw [← hSS] at hsn hbd ⊢
      rw [← hhd] at d1 hget
      have HSN := Lib.hid hsn
      have HBA := Lib.hid hba
      have HLC := Lib.hid hlc
      clear hsn hts hla hgf hlen hmem hhd hSS c1 hba hlc
      generalize (bs e'.2) = lb at *
      go_wp2_with fail
      refine hget.mono ?_
      rintro e w2 ⟨rfl, hb3⟩
      clear hget
      go_wp2_with fail
      refine (HLC.out _ (HBA.out.later hb3)).mono ?_
      rintro e w3 ⟨rfl, rfl⟩
      have hb4 := hbl.trans (hb3.mono hbl.size)
      go_wp2
      exact ⟨⟨k + 1, by omega, by go_num, by rw [HSN.out], hb4⟩, by simp [intOf]; omega⟩
    · obtain rfl : k = es.length := by omega
      rw [List.take_length]
      go_wp2
      go_ret
      exact ⟨rfl, hB⟩
end Go.Proofs.YtibgiohijknmbaaGreatDoor
