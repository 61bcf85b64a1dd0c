/-
  Joined texts: Stk, Put.
-/
import Derived.Test.YtibgiohijknmbaaGreatDoorM9
import Derived.Deep.RegionLaw
import Derived.Deep.AppendLies
import Derived.OneCell
/-
  stack.Bytes, over a stack in memory.
-/
namespace Go.Proofs.YtibgiohijknmbaaGreatDoor
open Go.RowKit
set_option linter.unusedVariables false
set_option linter.unusedSimpArgs false

/-- A stack's own cells. -/
def StackAt (w : World) (B s tb sb mb : Nat) (most : Int) : Prop :=
  B ≤ s ∧ w.heap[s]? = some (.cells #[.pointer (some ⟨tb, 0, none⟩), .pointer (some ⟨sb, 0, none⟩), .pointer (some ⟨mb, 0, none⟩), .int .i64 most] 83 (0, 0))
theorem StackAt.lt {w : World} {B s tb sb mb : Nat} {most : Int} (h : StackAt w B s tb sb mb most) : s < w.heap.size := (Array.getElem?_eq_some_iff.1 h.2).1
theorem StackAt.later {w w' : World} {B s tb sb mb : Nat} {most : Int} (h : StackAt w B s tb sb mb most) (hb : Below w.heap.size w w') : StackAt w' B s tb sb mb most := ⟨h.1, (hb.block _ h.lt).trans h.2⟩

/-- The blobs that a table's entries tell: their bytes and kinds, by their blocks. -/
def BlobsAt (w : World) (B : Nat) (es : Ents) (bs : Nat → List UInt8) (ks : Nat → ByteArray) : Prop := ∀ e ∈ es, BlobAt w B e.2 (bs e.2) (ks e.2) ∧ (bs e.2).length ≤ 1048576
theorem BlobsAt.later {w w' : World} {B : Nat} {es : Ents} {bs : Nat → List UInt8} {ks : Nat → ByteArray} (h : BlobsAt w B es bs ks) (hb : Below w.heap.size w w') : BlobsAt w' B es bs ks :=
  fun e he => ⟨(h e he).1.later hb, (h e he).2⟩
def lenAt (es : Ents) (bs : Nat → List UInt8) (h : Int) : Int := ((bs ((getF es h).getD 0)).length : Int)
def sumTo (es : Ents) (bs : Nat → List UInt8) (l : Ents) : Int := (l.map fun e => lenAt es bs e.1).sum
theorem sumTo_snoc (es : Ents) (bs : Nat → List UInt8) (l : Ents) (e : Int × Nat) : sumTo es bs (l ++ [e]) = sumTo es bs l + lenAt es bs e.1 := by simp [sumTo]
theorem getF_mem {es : Ents} {e : Int × Nat} (he : e ∈ es) : ∃ e' ∈ es, getF es e.1 = some e'.2 := by
  unfold getF
  cases h : es.find? fun x => x.1 == e.1 with
  | none =>
    have := List.find?_eq_none.1 h e he
    simp at this
  | some x => exact ⟨x, List.mem_of_find?_eq_some h, rfl⟩
theorem sumTo_bound (es : Ents) (bs : Nat → List UInt8) (hbs : ∀ e ∈ es, (bs e.2).length ≤ 1048576) (l : Ents) (hl : ∀ e ∈ l, e ∈ es) : 0 ≤ sumTo es bs l ∧ sumTo es bs l ≤ (l.length : Int) * 1048576 := by
  induction l with
  | nil => simp [sumTo]
  | cons a t ih =>
    have h := ih (fun e he => hl e (List.mem_cons_of_mem _ he))
    obtain ⟨e', he', hg⟩ := getF_mem (hl a (List.mem_cons_self ..))
    have h2 := hbs e' he'
    have : sumTo es bs (a :: t) = lenAt es bs a.1 + sumTo es bs t := by simp [sumTo]
    have h3 : lenAt es bs a.1 = ((bs e'.2).length : Int) := by unfold lenAt; rw [hg]; rfl
    rw [this, h3, List.length_cons]
    omega

set_option maxRecDepth 100000 in
set_option maxHeartbeats 1000000 in
theorem sbytes_c (B s tb sb mb : Nat) (most : Int) (es : Ents) (room last : Int) (bs : Nat → List UInt8) (ks : Nat → ByteArray) (w : World) (hS : StackAt w B s tb sb mb most) (hT : TabAt w B tb es room last) (hB : BlobsAt w B es bs ks) :
    Calls Tryz.prog 16 #[.pointer (some ⟨s, 0, none⟩)] w fun e w' => e = .returned (.int .i64 (sumTo es bs es)) ∧ Below w.heap.size w w' := by
  have hslt := hS.lt
  have hn := hT.2.1
  have c0 : w.cell? ⟨s, 0, none⟩ = some (.pointer (some ⟨tb, 0, none⟩)) := Lib.cell_of_heap hS.2 0
  have hbs : ∀ e ∈ es, (bs e.2).length ≤ 1048576 := fun e he => (hB e he).2
  have hh := handles_c B tb es room last w hT
  have HT := Lib.hid hT
  have HB := Lib.hid hB
  have HBS := Lib.hid hbs
  clear hT hB hS hbs
  go_enter Tryz.func16, Tryz.ntmps16
  go_wp2_with fail
  refine hh.mono ?_
  rintro e w1 ⟨v, rfl, ho, hb1⟩
  have hdata : ∃ a cap, v = .slice a es.length cap ∧ Hid (es.length ≤ cap ∧ ∀ j, j < es.length → ∃ g, a = some ⟨g, 0, none⟩ ∧ g < w1.heap.size ∧ w1.cell? ⟨g, j, none⟩ = some (.int .i64 (es.getD j (0, 0)).1)) := by
    rcases ho.2 with ⟨hlv, h0⟩ | ⟨g, cap, cur, hlv, hg, hhp, hnc, hm, hs, ht⟩
    · exact ⟨none, 0, by rw [hlv, h0], by omega, fun j hj => by omega⟩
    · refine ⟨some ⟨g, 0, none⟩, cap, hlv, hnc, fun j hj => ⟨g, rfl, (Array.getElem?_eq_some_iff.1 hhp).1, ?_⟩⟩
      have c1 := ho.cells (g := g) (by rw [hlv]; rfl) j (.int .i64 (es.getD j (0, 0)).1) (by simp [hanV, List.getD_eq_getElem?_getD, List.getElem?_eq_getElem hj])
      rw [addr_add0] at c1
      exact c1
  obtain ⟨a, cap, rfl, HD⟩ := hdata
  clear ho hh
  go_wp2
  go_loopw [3, 16] (fun n i wr => ∃ k : Nat, k ≤ es.length ∧ i = .int .i64 k ∧ n = .int .i64 (sumTo es bs (es.take k)) ∧ Below w1.heap.size w1 wr) (fun _ i _ => es.length - (intOf i).toNat)
  case atStart => exact ⟨0, Nat.zero_le _, rfl, rfl, Below.refl _ _⟩
  case round =>
    obtain ⟨k, hk, rfl, rfl, hbl⟩ := hrel
    have hB := hb1.trans (hbl.mono hb1.size)
    by_cases hlk : k < es.length
    · obtain ⟨g, rfl, hgl, c1⟩ := HD.out.2 k hlk
      have hcap := HD.out.1
      have d1 : wr.cell? ⟨g, k, none⟩ = some (.int .i64 (es.getD k (0, 0)).1) := (hbl.cell (p := ⟨g, k, none⟩) hgl).trans c1
      have d0 : wr.cell? ⟨s, 0, none⟩ = some (.pointer (some ⟨tb, 0, none⟩)) := (hB.cell (p := ⟨s, 0, none⟩) hslt).trans c0
      have hmem : es.getD k (0, 0) ∈ es := by
        rw [List.getD_eq_getElem?_getD, List.getElem?_eq_getElem hlk]; exact List.getElem_mem _
      have hts : es.take (k + 1) = es.take k ++ [es.getD k (0, 0)] := by
        rw [List.take_succ_eq_append_getElem hlk, List.getD_eq_getElem?_getD, List.getElem?_eq_getElem hlk]
        rfl
      obtain ⟨e', he', hgf⟩ := getF_mem hmem
      have hsn := sumTo_snoc es bs (es.take k) (es.getD k (0, 0))
      rw [← hts] at hsn
      have hla : lenAt es bs (es.getD k (0, 0)).1 = ((bs e'.2).length : Int) := by unfold lenAt; rw [hgf]; rfl
      rw [hla] at hsn
      have hbd := sumTo_bound es bs HBS.out (es.take k) (fun e he => List.mem_of_mem_take he)
      have hlen : (es.take k).length = k := by rw [List.length_take]; omega
      rw [hlen] at hbd
      have hb2 := HBS.out e' he'
      have hget := get_c B tb es room last (es.getD k (0, 0)).1 wr (HT.out.later hB)
      rw [hgf] at hget
      unfold optPtr at hget
      simp only [Option.map_some, Option.isSome_some] at hget
      have hlc := fun W (h : BlobAt W B e'.2 (bs e'.2) (ks e'.2)) => len_c B e'.2 (bs e'.2) (ks e'.2) W h
      have hba := (HB.out e' he').1.later hB
      obtain ⟨hd, hhd⟩ : ∃ hd, hd = (es.getD k (0, 0)).1 := ⟨_, rfl⟩
      obtain ⟨S, hSS⟩ : ∃ S, S = sumTo es bs (es.take k) := ⟨_, rfl⟩
      rw [← hSS] at hsn hbd ⊢
      rw [← hhd] at d1 hget
      have HSN := Lib.hid hsn
      have HBA := Lib.hid hba
      have HLC := Lib.hid hlc
      clear hsn hts hla hgf hlen hmem hhd hSS c1 hba hlc
      generalize (bs e'.2) = lb at *
      go_wp2_with fail
      refine hget.mono ?_
      rintro e w2 ⟨rfl, hb3⟩
      clear hget
      go_wp2_with fail
      refine (HLC.out _ (HBA.out.later hb3)).mono ?_
      rintro e w3 ⟨rfl, rfl⟩
      have hb4 := hbl.trans (hb3.mono hbl.size)
      go_wp2
      exact ⟨⟨k + 1, by omega, by go_num, by rw [HSN.out], hb4⟩, by simp [intOf]; omega⟩
    · obtain rfl : k = es.length := by omega
      rw [List.take_length]
      go_wp2
      go_ret
      exact ⟨rfl, hB⟩
end Go.Proofs.YtibgiohijknmbaaGreatDoor

/-
  table.Put.
-/
namespace Go.Proofs.YtibgiohijknmbaaGreatDoor
open Go.RowKit
set_option linter.unusedVariables false
set_option linter.unusedSimpArgs false

theorem einfo : (Tryz.prog.info? 124).map (fun i => (i.zero, i.size, i.bytes)) = some (some (.agg #[.int .i64 0, .pointer none]), 2, 16) := by kernel_rfl
/-- What may have been turned: blocks of some types. -/
def TyKept (ts : List TypeId) (w w' : World) : Prop := ∀ (k : Nat) (c : Array Value) (T : TypeId) (fz : Nat × Nat), w.heap[k]? = some (.cells c T fz) → T ∉ ts → w'.heap[k]? = w.heap[k]?
def ChKept (w w' : World) : Prop := ∀ (k cap : Nat) (buf : Array Value) (cl : Bool) (s r : Nat) (tm : Bool), w.heap[k]? = some (.chan cap buf cl s r tm) → w'.heap[k]? = w.heap[k]?

def PutOk (B tb : Nat) (es : Ents) (room last : Int) (blk : Nat) (w : World) (e : Ending) (w' : World) : Prop :=
  if (es.length : Int) = room then e = .returned (.tuple #[.int .i64 0, .int .i64 4]) ∧ Below w.heap.size w w'
  else e = .returned (.tuple #[.int .i64 (last + 1), .int .i64 0]) ∧ TabAt w' B tb (es ++ [(last + 1, blk)]) room (last + 1) ∧ Below B w w' ∧
    TyKept [127, 124] w w' ∧ ChKept w w'

theorem own_typed2 {w : World} {B n sz : Nat} {e : TypeId} {v : Value} {xs : List Value} (h : w.ownsRow B e sz v n xs) (k : Nat) (hk : v.ownBlock = some k) : ∃ cells, w.heap[k]? = some (.cells cells e (0, 0)) := by
  rcases h.2 with ⟨hv, _⟩ | ⟨g, cap, cur, hv, hg, hh, r⟩
  · rw [hv] at hk; cases hk
  · rw [hv] at hk
    have : g = k := Option.some.inj hk
    subst this
    exact ⟨cur, hh⟩
theorem put_close (B tb : Nat) (es : Ents) (room last : Int) (blk cap : Nat) (a : Option Addr) (w W w1 : World) (gg c1 : Nat) (o : Obj) (hBt : B ≤ tb) (hlt : tb < w.heap.size) (hn : es.length ≤ 64)
    (hv : w.heap[tb]? = some (.cells #[.slice a es.length cap, .int .i64 room, .int .i64 last] 127 (0, 0)))
    (hv2 : W.heap[tb]? = some (.cells #[.slice a es.length cap, .int .i64 room, .int .i64 (last + 1)] 127 (0, 0)))
    (ho : RowE w B (.slice a es.length cap) es) (ho2 : RowE W B (.slice a es.length cap) es) (hbl : (Value.slice a es.length cap).ownBlock ≠ some tb) (hk2 : ∀ k, k ≠ tb → W.heap[k]? = w.heap[k]?) (hs2 : W.heap.size = w.heap.size)
    (hb2 : Below B w W) (hgrow : ((W.alloc o).drew).grownBy w1 (Value.slice a es.length cap).ownBlock)
    (hown1 : w1.ownsRow B 124 2 (.slice (some ⟨gg, 0, none⟩) (es.length + 1) c1) (es.length + 1) (entV es ++ [.int .i64 (last + 1), .pointer (some ⟨blk, 0, none⟩)]))
    (hat : (Value.slice a es.length cap).ownBlock = some gg ∨ gg = W.heap.size + 1) (hfn : es.length < 64) :
    TabAt (w1.setCell ⟨tb, 0, none⟩ (.slice (some ⟨gg, 0, none⟩) (es.length + 1) c1)) B tb (es ++ [(last + 1, blk)]) room (last + 1) ∧ Below B w (w1.setCell ⟨tb, 0, none⟩ (.slice (some ⟨gg, 0, none⟩) (es.length + 1) c1)) ∧
      TyKept [127, 124] w (w1.setCell ⟨tb, 0, none⟩ (.slice (some ⟨gg, 0, none⟩) (es.length + 1) c1)) ∧ ChKept w (w1.setCell ⟨tb, 0, none⟩ (.slice (some ⟨gg, 0, none⟩) (es.length + 1) c1)) := by
  have hgt : gg ≠ tb := by
    rcases hat with h | h
    · intro e; rw [e] at h; exact hbl h
    · omega
  have hsz : ((W.alloc o).drew).heap.size = W.heap.size + 1 := by simp
  have hold : ∀ k, k < W.heap.size → some k ≠ (Value.slice a es.length cap).ownBlock → w1.heap[k]? = W.heap[k]? := fun k hk hne => (hgrow.block k (by omega) hne).trans (Below.heap_alloc W o k hk)
  have hvt : w1.heap[tb]? = some (.cells #[.slice a es.length cap, .int .i64 room, .int .i64 (last + 1)] 127 (0, 0)) := (hold tb (by omega) (fun e => hbl e.symm)).trans hv2
  have hother : ∀ k, k < w.heap.size → k ≠ tb → some k ≠ (Value.slice a es.length cap).ownBlock → (w1.setCell ⟨tb, 0, none⟩ (.slice (some ⟨gg, 0, none⟩) (es.length + 1) c1)).heap[k]? = w.heap[k]? := fun k hk h1 h2 => by
    rw [heap_setCell_other _ _ _ _ h1, hold k (by omega) h2, hk2 k h1]
  refine ⟨⟨hBt, by rw [List.length_append]; simp; omega, _, heap_setCell_same w1 tb 0 _ _ _ hvt, ?_⟩, ?_, ?_, ?_⟩
  · unfold RowE
    rw [List.length_append]
    have e : entV (es ++ [(last + 1, blk)]) = entV es ++ [.int .i64 (last + 1), .pointer (some ⟨blk, 0, none⟩)] := by simp [entV]
    rw [e]
    exact ownsRow_setCell_other hown1 (by simp [Value.ownBlock]; exact hgt) _
  · have h3 : Below B w ((W.alloc o).drew) := (hb2.alloc (by omega) o).drew
    exact (h3.grown hgrow (by omega) (fun q hq => (ho.lt q hq).1)).setCell hBt _
  · intro k c T fz hk hT
    have hkl : k < w.heap.size := (Array.getElem?_eq_some_iff.1 hk).1
    refine hother k hkl ?_ ?_
    · rintro rfl
      rw [hv] at hk
      injection Option.some.inj hk with _ h2
      exact hT (by simp [← h2])
    · intro e
      obtain ⟨cells, hc⟩ := own_typed2 ho k e.symm
      rw [hc] at hk
      injection Option.some.inj hk with _ h2
      exact hT (by simp [← h2])
  · intro k cp buf cl s r tm hk
    have hkl : k < w.heap.size := (Array.getElem?_eq_some_iff.1 hk).1
    refine hother k hkl ?_ ?_
    · rintro rfl
      rw [hv] at hk
      cases Option.some.inj hk
    · intro e
      obtain ⟨cells, hc⟩ := own_typed2 ho k e.symm
      rw [hc] at hk
      cases Option.some.inj hk
set_option maxRecDepth 100000 in
set_option maxHeartbeats 1000000 in
theorem put_c (B tb : Nat) (es : Ents) (room last : Int) (blk : Nat) (w : World) (hT : TabAt w B tb es room last) (hr : room ≤ 64) (hfull : es.length < 64 ∨ (es.length : Int) = room) (h0 : 0 ≤ last) (h1 : last ≤ 1000000) :
    Calls Tryz.prog 60 #[.pointer (some ⟨tb, 0, none⟩), .pointer (some ⟨blk, 0, none⟩)] w (PutOk B tb es room last blk w) := by
  have hfull' := hfull
  clear hfull
  have hlt := hT.lt
  obtain ⟨hBt, hn, lv, hv, ho⟩ := hT
  obtain ⟨i0, hi, hz0, hz1, hz2⟩ := info_parts einfo
  obtain ⟨a, cap, hlv, hcap⟩ : ∃ a cap, lv = .slice a es.length cap ∧ es.length ≤ cap := by
    rcases ho.2 with ⟨hlv, h0⟩ | ⟨g, cap, cur, hlv, hg, hhp, hnc, hm, hs, ht⟩
    · exact ⟨none, 0, by rw [hlv, h0], by omega⟩
    · exact ⟨_, cap, hlv, hnc⟩
  have hbl : lv.ownBlock ≠ some tb := by
    intro e
    rcases ho.2 with ⟨hlv, h0⟩ | ⟨g, cap, cur, hlv, hg, hhp, hnc, hm, hs, ht⟩
    · rw [hlv] at e; cases e
    · rw [hlv] at e
      have : g = tb := Option.some.inj e
      subst this
      rw [hv] at hhp
      have := Option.some.inj hhp
      injection this with _ h2
      exact absurd h2 (by decide)
  subst hlv
  have c0 : w.cell? ⟨tb, 0, none⟩ = some (.slice a es.length cap) := Lib.cell_of_heap hv 0
  have c1 : w.cell? ⟨tb, 1, none⟩ = some (.int .i64 room) := Lib.cell_of_heap hv 1
  have c2 : w.cell? ⟨tb, 2, none⟩ = some (.int .i64 last) := Lib.cell_of_heap hv 2
  have fz := fun j => frozen_of_row w tb j _ _ hv
  have HV := Lib.hid hv
  have HO := Lib.hid ho
  have HBL := Lib.hid hbl
  clear hv ho hbl
  by_cases hfull : (es.length : Int) = room
  · have HF := Lib.hid hfull
    have hfb : ((es.length : Int) == room) = true := by simpa using hfull
    clear hfull
    go_enter Tryz.func60, Tryz.ntmps60
    go_wp2
    go_quiet (fail)
    go_wp2
    go_ret2
    unfold PutOk
    rw [if_pos HF.out]
    exact ⟨rfl, below_drewN _ _⟩
  · have HF := Lib.hid hfull
    have hfb : ((es.length : Int) == room) = false := by simpa using hfull
    clear hfull
    go_enter Tryz.func60, Tryz.ntmps60
    go_wp2
    go_quiet (fail)
    go_wp2
    have hv2 : ((w.drewN nq).setCell ⟨tb, 2, none⟩ (.int .i64 (last + 1))).heap[tb]? = some (.cells #[.slice a es.length cap, .int .i64 room, .int .i64 (last + 1)] 127 (0, 0)) :=
      heap_setCell_same (w.drewN nq) tb 2 _ _ _ HV.out
    have ho2 : RowE ((w.drewN nq).setCell ⟨tb, 2, none⟩ (.int .i64 (last + 1))) B (.slice a es.length cap) es := ownsRow_setCell_other (w := w.drewN nq) HO.out HBL.out _
    have hk2 : ∀ k, k ≠ tb → ((w.drewN nq).setCell ⟨tb, 2, none⟩ (.int .i64 (last + 1))).heap[k]? = w.heap[k]? := fun k hk => heap_setCell_other (w.drewN nq) _ _ _ hk
    have hs2 : ((w.drewN nq).setCell ⟨tb, 2, none⟩ (.int .i64 (last + 1))).heap.size = w.heap.size := by simp [World.setCell]
    have hb2 : Below B w ((w.drewN nq).setCell ⟨tb, 2, none⟩ (.int .i64 (last + 1))) := ((below_drewN w nq).mono (Nat.le_of_lt (Nat.lt_of_le_of_lt hBt hlt))).setCell hBt _
    generalize (w.drewN nq).setCell ⟨tb, 2, none⟩ (.int .i64 (last + 1)) = W at *
    have d0 : W.cell? ⟨tb, 0, none⟩ = some (.slice a es.length cap) := Lib.cell_of_heap hv2 0
    have d2 : W.cell? ⟨tb, 2, none⟩ = some (.int .i64 (last + 1)) := Lib.cell_of_heap hv2 2
    have fz2 := fun j => frozen_of_row W tb j _ _ hv2
    have hlt2 : tb < W.heap.size := by omega
    clear c0 c1 c2 fz
    have HK2 := Lib.hid hk2
    have HV2 := Lib.hid hv2
    have HO2 := Lib.hid ho2
    have HS2 := Lib.hid hs2
    clear hk2 hv2 ho2 hs2
    have hfn : es.length < 64 := by
      rcases hfull' with h | h
      · exact h
      · exact absurd h HF.out
    have hnews : Hid (∀ (n : Nat) (X : World), X.heap[n]? = some (.cells #[.int .i64 (last + 1), .pointer (some ⟨blk, 0, none⟩)] 124 (0, 0)) → ∀ j u, ([.int .i64 (last + 1), .pointer (some ⟨blk, 0, none⟩)] : List Value)[j]? = some u → X.cell? ((⟨n, 0, none⟩ : Addr).add j) = some u) := fun n X hX j u hu => by
      rw [addr_add0, Lib.cell_of_heap hX j, ← hu]
      simp
    go_region_law (refine step_append_lies _ (by rfl) (.tmp 31) (.tmp 38) 125 (by rfl) B 124 i0 _ 2 16 Tryz.underlying125 hi hz0 hz1 hz2 rfl (by omega) (.slice a es.length cap) es.length (entV es) (by rfl) ((World.ownsRow.alloc HO2.out _).drew) ⟨W.heap.size, 0, none⟩ 1 1 [.int .i64 (last + 1), .pointer (some ⟨blk, 0, none⟩)] (by rfl) (by rfl) (hnews.out _ _ (heap_last _ _)) (by simp [Value.oneCell']) (by omega) (by unfold maxLen; omega) (by omega) (by simp; omega) (W.heap.size + 1) (by simp) ?_; intro gg c1 w1 hown1 hgrow hat hlt1; have q0 : w1.cell? ⟨tb, 0, none⟩ = some (.slice a es.length cap) := (hgrow.cell_far ⟨tb, 0, none⟩ (by simp; omega) (fun e => HBL.out e.symm)).trans ((World.cell?_of_block (w := W) (Below.heap_alloc _ _ _ hlt2)).trans d0); have qz : w1.frozen? ⟨tb, 0, none⟩ = false := (hgrow.frozen_far ⟨tb, 0, none⟩ (by simp; omega) (fun e => HBL.out e.symm)).trans ((World.frozen?_of_block (w := W) (Below.heap_alloc _ _ _ hlt2)).trans (fz2 0)); have q2 : w1.cell? ⟨tb, 2, none⟩ = some (.int .i64 (last + 1)) := (hgrow.cell_far ⟨tb, 2, none⟩ (by simp; omega) (fun e => HBL.out e.symm)).trans ((World.cell?_of_block (w := W) (Below.heap_alloc _ _ _ hlt2)).trans d2))
    all_goals
      have HC := Lib.hid (put_close B tb es room last blk cap a w W w1 gg c1 _ hBt hlt hn HV.out HV2.out HO.out HO2.out HBL.out HK2.out HS2.out hb2 hgrow hown1 hat hfn)
      clear hown1 hgrow hat
      go_wp2
      go_ret2
      unfold PutOk
      rw [if_neg HF.out]
      exact ⟨rfl, HC.out⟩
end Go.Proofs.YtibgiohijknmbaaGreatDoor
