/-
  Joined texts: Base, RepB.
-/
import Derived.WalkKit
import Derived.WalkSpells
import Derived.WalkLawsBesides
import Derived.Lib.ConvBytes
import Derived.Test.YtibgiohijknmbaaGreatDoorProg
import Derived.Deep.LoopGhost
import Derived.Lib.Builder
/-
  Small lemmas on worlds and values that all walks of this seat use: no program in sight.
-/
namespace Go.Proofs.YtibgiohijknmbaaGreatDoor
open Go.RowKit
set_option linter.unusedVariables false
set_option linter.unusedSimpArgs false

theorem ret_b {a b : Bool} (h : a = b) : Ending.returned (.bool a) = .returned (.bool b) := by rw [h]
theorem ret_i {k : IntKind} {a b : Int} (h : a = b) : Ending.returned (.int k a) = .returned (.int k b) := by rw [h]
theorem ret_s {a b : ByteArray} (h : a = b) : Ending.returned (.string a) = .returned (.string b) := by rw [h]

theorem below_bytesWorld (w : World) (e : TypeId) (s : ByteArray) : Below w.heap.size w (Lib.bytesWorld w e s) :=
  ⟨by simp [Lib.bytesWorld, World.freeze, World.alloc, World.drew, -World.alloc_eq, -World.drew_eq], by simp [Lib.bytesWorld, World.freeze, World.alloc, World.drew, -World.alloc_eq, -World.drew_eq],
    by simp [Lib.bytesWorld, World.freeze, World.alloc, World.drew, -World.alloc_eq, -World.drew_eq], by rw [Lib.bytesWorld_size]; omega, fun k hk => Lib.bytesWorld_at_old w e s k hk⟩
theorem bytesCells_size (w : World) (e : TypeId) (s : ByteArray) : s.size ≤ (Lib.bytesCells w e s).size := by
  simp [Lib.bytesCells]
theorem frozen_bytesWorld (w : World) (e : TypeId) (s : ByteArray) (j : Nat) (hj : j < s.size) : (Lib.bytesWorld w e s).frozen? ⟨w.heap.size, j, none⟩ = false := by
  have h := bytesCells_size w e s
  simp only [World.frozen?, Lib.bytesWorld_at_new]
  have : ¬ (Lib.bytesCells w e s).size ≤ j := by omega
  simp [this]

/-- Byte j of a string, as a number. -/
def sAt (s : ByteArray) (j : Nat) : Int := ((s.data.toList.getD j 0).toNat : Int)
theorem sAt_range (s : ByteArray) (j : Nat) : 0 ≤ sAt s j ∧ sAt s j ≤ 255 := by
  unfold sAt
  have := (s.data.toList.getD j 0).toNat_lt
  omega
theorem ofNat_toNat (b : UInt8) : UInt8.ofNat (Int.toNat (b.toNat : Int)) = b := by simp
/-- What a list of numbers, byte by byte out of a string's, is as a string. -/
theorem strOfNums_map (s : ByteArray) (f : Nat → Int) (g : UInt8 → UInt8) (h : ∀ j, j < s.size → f j = ((g (s.data.toList.getD j 0)).toNat : Int)) :
    strOfNums ((List.range s.size).map f) = ⟨(s.data.toList.map g).toArray⟩ := by
  have sz : s.size = s.data.toList.length := by rw [Array.length_toList]; rfl
  unfold strOfNums
  congr 2
  apply List.ext_getElem
  · simp
  · intro i h1 h2
    have hi : i < s.size := by simpa using h1
    have hi' : i < s.data.toList.length := by rw [← sz]; exact hi
    simp only [List.getElem_map, List.getElem_range]
    rw [h i hi, List.getD_eq_getElem?_getD, List.getElem?_eq_getElem hi']
    simp

/-- A row of the call's own stays one in a later world. -/
theorem own_later {w w1 : World} {base : Nat} {e : TypeId} {size n : Nat} {v : Value} {xs : List Value} (h : w.ownsRow base e size v n xs) (hb : Below w.heap.size w w1) : w1.ownsRow base e size v n xs :=
  h.kept (w' := w1) (row := none) ⟨hb.os, hb.tape, hb.output, hb.size, fun i hi _ => hb.block i hi⟩ (by cases v.ownBlock <;> simp)
theorem below_from {B : Nat} {w w1 w2 : World} (h : Below B w w1) (hB : B ≤ w1.heap.size) (k : Below w1.heap.size w1 w2) : Below B w w2 := h.trans (k.mono hB)
/-- Bytes in memory. -/
def BytesAt (w : World) (b off : Nat) (l : List UInt8) : Prop := ∀ j, j < l.length → w.cell? ⟨b, off + j, none⟩ = some (.int .u8 ((l.getD j 0).toNat : Int))
theorem BytesAt.below {w w1 : World} {b off : Nat} {l : List UInt8} (h : BytesAt w b off l) {B : Nat} (hb : Below B w w1) (hlt : b < B) : BytesAt w1 b off l :=
  fun j hj => (hb.cell (p := ⟨b, off + j, none⟩) hlt).trans (h j hj)
theorem BytesAt.drop {w : World} {b off : Nat} {l : List UInt8} (h : BytesAt w b off l) (n : Nat) : BytesAt w b (off + n) (l.drop n) := fun j hj => by
  have hj' : n + j < l.length := by rw [List.length_drop] at hj; omega
  have := h (n + j) hj'
  rw [Nat.add_assoc, this]
  simp [List.getD_eq_getElem?_getD]
theorem addr_add0 (g j : Nat) : (⟨g, 0, none⟩ : Addr).add j = ⟨g, j, none⟩ := by unfold Addr.add; split <;> simp_all
def lenOf : Value → Nat
  | .slice _ n _ => n
  | _ => 0
end Go.Proofs.YtibgiohijknmbaaGreatDoor

/-
  strings.Replacer over single bytes: build.
-/
namespace Go.Proofs.YtibgiohijknmbaaGreatDoor
open Go.RowKit
set_option linter.unusedVariables false
set_option linter.unusedSimpArgs false

abbrev Pairs := List (UInt8 × List UInt8)
def oldnew (ps : Pairs) : List ByteArray := ps.flatMap fun p => [⟨#[p.1]⟩, ⟨p.2.toArray⟩]
/-- Strings in memory. -/
def StrsAt (w : World) (g : Nat) (ss : List ByteArray) : Prop := ∀ j, j < ss.length → w.cell? ⟨g, j, none⟩ = some (.string (ss.getD j ByteArray.empty))
theorem oldnew_length (ps : Pairs) : (oldnew ps).length = 2 * ps.length := by
  induction ps with
  | nil => rfl
  | cons p t ih =>
    have : oldnew (p :: t) = [⟨#[p.1]⟩, ⟨p.2.toArray⟩] ++ oldnew t := by simp [oldnew]
    rw [this, List.length_append, ih]
    simp
    omega
theorem oldnew_even (ps : Pairs) (d : UInt8 × List UInt8) : ∀ i, i < ps.length → (oldnew ps).getD (2 * i) ByteArray.empty = ⟨#[(ps.getD i d).1]⟩ ∧ (oldnew ps).getD (2 * i + 1) ByteArray.empty = ⟨(ps.getD i d).2.toArray⟩ := by
  induction ps with
  | nil => intro i h; simp at h
  | cons p t ih =>
    intro i h
    have e : oldnew (p :: t) = ⟨#[p.1]⟩ :: ⟨p.2.toArray⟩ :: oldnew t := by simp [oldnew]
    rw [e]
    cases i with
    | zero => simp
    | succ i =>
      have := ih i (by simpa using h)
      rw [show 2 * (i + 1) = (2 * i + 1) + 1 by omega, show (2 * i + 1) + 1 + 1 = (2 * i + 1 + 1) + 1 by omega]
      simpa using this

def allB (ps : Pairs) (k : Nat) : Bool := (ps.take k).all fun p => p.2.length == 1
theorem allB_succ (ps : Pairs) (k : Nat) (h : k < ps.length) : allB ps (k + 1) = (allB ps k && ((ps.getD k (0, [])).2.length == 1)) := by
  unfold allB
  rw [List.take_succ_eq_append_getElem h, List.all_append, List.getD_eq_getElem?_getD, List.getElem?_eq_getElem h]
  simp
theorem allB_not (ps : Pairs) (h : ∃ i, i < ps.length ∧ (ps.getD i (0, [])).2.length ≠ 1) : allB ps ps.length = false := by
  obtain ⟨i, hi, hn⟩ := h
  unfold allB
  rw [List.take_length, List.all_eq_false]
  refine ⟨ps.getD i (0, []), ?_, by simpa using hn⟩
  rw [List.getD_eq_getElem?_getD, List.getElem?_eq_getElem hi]
  exact List.getElem_mem hi

theorem sinfo : (Tryz.prog.info? 9).map (fun i => (i.zero, i.size, i.bytes)) = some (some (.string ByteArray.empty), 1, 16) := by kernel_rfl
theorem zrep : Tryz.zeroCells305.toList = List.replicate 257 (.slice none 0 0) := by kernel_rfl

/-- What is laid for a byte. -/
def look (qs : Pairs) (c : UInt8) : Option (List UInt8) := (qs.find? fun p => p.1 == c).map (·.2)
/-- A byte's cell of a replacer: nil, or a slice of the bytes that stand for it. -/
def RepCell (w : World) (v : Value) : Option (List UInt8) → Prop
  | none => v = .slice none 0 0
  | some n => ∃ g cap, v = .slice (some ⟨g, 0, none⟩) n.length cap ∧ n.length ≤ cap ∧ cap ≤ 9223372036854775807 ∧ BytesAt w g 0 n ∧ ∃ cells fz, w.heap[g]? = some (.cells cells 5 fz)
def oldsV (qs : Pairs) : List Value := qs.reverse.map fun p => .string ⟨#[p.1]⟩
/-- A byteStringReplacer in block R, from block B on the call's own. -/
structure RepAt (w : World) (B R : Nat) (qs : Pairs) : Prop where
  base : B ≤ R
  row : ∃ cur vT, w.heap[R]? = some (.cells cur 305 (0, 0)) ∧ cur.size = 257 ∧ (∀ c : UInt8, ∃ v, cur[c.toNat]? = some v ∧ RepCell w v (look qs c)) ∧ cur[256]? = some vT ∧ w.ownsRow B 9 1 vT qs.length (oldsV qs)

theorem look_drop (ps : Pairs) (j : Nat) (hj : j < ps.length) (hn : (ps.map (·.1)).Nodup) : look (ps.drop (j + 1)) (ps.getD j (0, [])).1 = none := by
  unfold look
  rw [List.find?_eq_none.2]
  · rfl
  · intro p hp hpe
    have hd : (ps.drop j).map (·.1) = (ps.getD j (0, [])).1 :: (ps.drop (j + 1)).map (·.1) := by
      rw [List.drop_eq_getElem_cons hj, List.getD_eq_getElem?_getD, List.getElem?_eq_getElem hj]
      rfl
    have h2 : ((ps.drop j).map (·.1)).Nodup := by
      rw [List.map_drop]
      exact List.Nodup.sublist (List.drop_sublist _ _) hn
    rw [hd, List.nodup_cons] at h2
    exact h2.1 (List.mem_map.2 ⟨p, hp, by simpa using hpe⟩)
theorem heap_last (w : World) (o : Obj) : (w.alloc o).heap[w.heap.size]? = some o := by
  show (w.heap.push o)[w.heap.size]? = _
  rw [Array.getElem?_push, if_pos rfl]
noncomputable def repW (W : World) (v : Value) : World := (W.alloc (.cells Tryz.zeroCells305 305)).setRow W.heap.size (Tryz.zeroCells305.toList.set 256 v).toArray
theorem rep_store (W : World) (v : Value) (hv : v.oneCell' = true) :
    (storeCells ⟨W.heap.size, 0, none⟩ (Tryz.zeroCells305.toList.set 256 v)).run Tryz.prog (W.alloc (.cells Tryz.zeroCells305 305)) = .ok () (repW W v) := by
  have hsz := Tryz.zeroCells305_size
  have h := run_storeCells_from (P := Tryz.prog) W.heap.size 305 (Tryz.zeroCells305.toList.set 256 v) 0 Tryz.zeroCells305 (W.alloc (.cells Tryz.zeroCells305 305)) (heap_last W _) (by rw [List.length_set, Array.length_toList, hsz]) (by
    intro u hu
    rcases List.mem_or_eq_of_mem_set hu with h | h
    · rw [zrep] at h
      rw [List.eq_of_mem_replicate h]
      rfl
    · rw [h]; exact hv)
  rw [List.take_zero, List.nil_append] at h
  exact h
theorem rep_heap (W : World) (v : Value) : (repW W v).heap[W.heap.size]? = some (.cells (Tryz.zeroCells305.toList.set 256 v).toArray 305 (0, 0)) := by
  unfold repW
  exact setRow_heap _ _ _ _ _ _ (heap_last W _)
theorem rep_below (W : World) (v : Value) : Below W.heap.size W (repW W v) := by
  unfold repW
  refine ((Below.refl _ W).alloc (Nat.le_refl _) _).trans ⟨rfl, rfl, rfl, by rw [setRow_size]; exact Nat.le_refl _, fun k hk => setRow_other _ _ _ _ (by omega)⟩
theorem rep_new (W : World) (v : Value) (B : Nat) (hB : B ≤ W.heap.size) (hv : W.ownsRow B 9 1 v 0 []) : RepAt (repW W v) B W.heap.size [] := by
  refine ⟨hB, _, v, rep_heap W v, ?_, ?_, ?_, own_later hv (rep_below W v)⟩
  · rw [List.size_toArray, List.length_set, Array.length_toList]
    exact Tryz.zeroCells305_size
  · intro c
    have hc := c.toNat_lt
    refine ⟨.slice none 0 0, ?_, rfl⟩
    rw [List.getElem?_toArray, List.getElem?_set_ne (by omega), zrep, List.getElem?_replicate]
    rw [if_pos (by omega)]
  · rw [List.getElem?_toArray, List.getElem?_set_self (by rw [zrep, List.length_replicate]; decide)]

theorem bytes_of_block {w w' : World} {g off : Nat} {l : List UInt8} (h : BytesAt w g off l) (e : w'.heap[g]? = w.heap[g]?) : BytesAt w' g off l := fun j hj => by
  have := h j hj
  simp only [World.cell?] at this ⊢
  rw [e]
  exact this
theorem cell_of_block {w w' : World} {v : Value} {x : Option (List UInt8)} (h : RepCell w v x) (e : ∀ (g : Nat) (cells : Array Value) (fz : Nat × Nat), w.heap[g]? = some (Obj.cells cells 5 fz) → w'.heap[g]? = w.heap[g]?) : RepCell w' v x := by
  cases x with
  | none => exact h
  | some n =>
    obtain ⟨g, cap, hv, h1, h2, h3, cells, fz, hc⟩ := h
    have eg := e g cells fz hc
    exact ⟨g, cap, hv, h1, h2, bytes_of_block h3 eg, cells, fz, eg.trans hc⟩
theorem oldsV_cons (p : UInt8 × List UInt8) (qs : Pairs) : oldsV (p :: qs) = oldsV qs ++ [.string ⟨#[p.1]⟩] := by simp [oldsV]
theorem own_block_ty {w : World} {B n : Nat} {v : Value} {xs : List Value} {e : TypeId} (h : w.ownsRow B e 1 v n xs) (g : Nat) (cells : Array Value) (T : TypeId) (fz : Nat × Nat) (hg : w.heap[g]? = some (.cells cells T fz)) (hT : T ≠ e) : some g ≠ v.ownBlock := by
  rcases h.2 with ⟨rfl, _⟩ | ⟨k, cap, cur, rfl, _, hh, _⟩
  · simp [Value.ownBlock]
  · intro hk
    have : g = k := by simpa [Value.ownBlock] using hk
    subst this
    rw [hg] at hh
    injection hh with hh
    injection hh with _ ht
    exact hT ht
def repNext (w2 : World) (R : Nat) (o : UInt8) (nn : List UInt8) (v' : Value) : World :=
  (Lib.bytesWorld (w2.setCell ⟨R, 256, none⟩ v') 5 ⟨nn.toArray⟩).setCell ⟨R, o.toNat, none⟩ (.slice (some ⟨w2.heap.size, 0, none⟩) nn.length (grownCap (w2.setCell ⟨R, 256, none⟩ v') nn.length 0 5))
theorem repNext_block (w2 : World) (R : Nat) (o : UInt8) (nn : List UInt8) (v' : Value) (k : Nat) (hk : k ≠ R) (hlt : k < w2.heap.size) : (repNext w2 R o nn v').heap[k]? = w2.heap[k]? := by
  unfold repNext
  rw [heap_setCell_other _ _ _ _ hk, Lib.bytesWorld_at_old _ _ _ _ (by rw [World.size_setCell]; exact hlt), heap_setCell_other _ _ _ _ hk]
theorem repNext_size (w2 : World) (R : Nat) (o : UInt8) (nn : List UInt8) (v' : Value) : (repNext w2 R o nn v').heap.size = w2.heap.size + 1 := by
  unfold repNext
  rw [World.size_setCell, Lib.bytesWorld_size, World.size_setCell]
theorem rep_step (B R : Nat) (qs : Pairs) (o : UInt8) (nn : List UInt8) (wr w1 w2 : World) (cur : Array Value) (vT v' : Value) (hBR : B ≤ R)
    (hheap : wr.heap[R]? = some (.cells cur 305 (0, 0))) (hcs : cur.size = 257) (hcells : ∀ c : UInt8, ∃ v, cur[c.toNat]? = some v ∧ RepCell wr v (look qs c)) (hown : wr.ownsRow B 9 1 vT qs.length (oldsV qs))
    (h1 : ∀ k, k < wr.heap.size → w1.heap[k]? = wr.heap[k]?) (hs1 : wr.heap.size ≤ w1.heap.size) (hg : w1.grownBy w2 vT.ownBlock) (hown2 : w2.ownsRow B 9 1 v' (qs.length + 1) (oldsV qs ++ [.string ⟨#[o]⟩])) (hn : nn.length ≤ 1000) :
    RepAt (repNext w2 R o nn v') B R ((o, nn) :: qs) := by
  have hRlt : R < wr.heap.size := (Array.getElem?_eq_some_iff.1 hheap).1
  have hR2 : w2.heap[R]? = some (.cells cur 305 (0, 0)) := by
    rw [hg.block R (by omega) (own_block_ty hown R cur _ _ hheap (by decide)), h1 R hRlt, hheap]
  have hRlt2 : R < w2.heap.size := (Array.getElem?_eq_some_iff.1 hR2).1
  have hO := o.toNat_lt
  have hsz : (⟨nn.toArray⟩ : ByteArray).size = nn.length := by show nn.toArray.size = _; simp
  have hold : ∀ k, k ≠ R → k < w2.heap.size → (repNext w2 R o nn v').heap[k]? = w2.heap[k]? := repNext_block w2 R o nn v'
  have hS : w2.heap.size = (w2.setCell ⟨R, 256, none⟩ v').heap.size := (World.size_setCell ..).symm
  have hR4 : (repNext w2 R o nn v').heap[R]? = some (.cells ((cur.setIfInBounds 256 v').setIfInBounds o.toNat (.slice (some ⟨w2.heap.size, 0, none⟩) nn.length (grownCap (w2.setCell ⟨R, 256, none⟩ v') nn.length 0 5))) 305 (0, 0)) := by
    unfold repNext
    refine heap_setCell_same _ _ _ _ _ _ ?_
    rw [Lib.bytesWorld_at_old _ _ _ _ (by rw [World.size_setCell]; exact hRlt2)]
    exact heap_setCell_same _ _ _ _ _ _ hR2
  refine ⟨hBR, _, v', hR4, by simpa using hcs, fun c => ?_, ?_, ?_⟩
  · by_cases hco : c = o
    · subst hco
      refine ⟨_, by rw [Array.getElem?_setIfInBounds_self_of_lt (by simp; omega)], ?_⟩
      have e : look ((c, nn) :: qs) c = some nn := by simp [look]
      rw [e]
      refine ⟨w2.heap.size, _, rfl, grownCap_ge _ _ _ _, ?_, ?_, ?_⟩
      · have := grownCap_le_maxLen (w2.setCell ⟨R, 256, none⟩ v') nn.length 0 5 (by unfold maxLen; omega)
        unfold maxLen at this
        exact this
      · intro j hj
        unfold repNext
        rw [World.cell?_setCell_other _ _ _ _ (by intro h; injection h; omega), Nat.zero_add, hS, Lib.bytesWorld_cell _ _ _ _ (by rw [hsz]; exact hj)]
      · refine ⟨Lib.bytesCells (w2.setCell ⟨R, 256, none⟩ v') 5 ⟨nn.toArray⟩, ((Lib.bytesCells (w2.setCell ⟨R, 256, none⟩ v') 5 ⟨nn.toArray⟩).size, (Lib.bytesCells (w2.setCell ⟨R, 256, none⟩ v') 5 ⟨nn.toArray⟩).size + 1), ?_⟩
        unfold repNext
        rw [heap_setCell_other _ _ _ _ (by show w2.heap.size ≠ R; omega), hS]
        exact Lib.bytesWorld_at_new _ _ _
    · obtain ⟨v, hv, hr⟩ := hcells c
      have hne : c.toNat ≠ o.toNat := fun h => hco (UInt8.toNat_inj.1 h)
      have hcl := c.toNat_lt
      refine ⟨v, by rw [Array.getElem?_setIfInBounds_ne (Ne.symm hne), Array.getElem?_setIfInBounds_ne (by omega)]; exact hv, ?_⟩
      have e : look ((o, nn) :: qs) c = look qs c := by simp [look, Ne.symm hco]
      rw [e]
      refine cell_of_block hr fun g cells fz hgc => ?_
      have hglt : g < wr.heap.size := (Array.getElem?_eq_some_iff.1 hgc).1
      have hgR : g ≠ R := by
        rintro rfl
        rw [hheap] at hgc
        injection hgc with hgc
        injection hgc with _ ht
        exact absurd ht (by decide)
      rw [hold g hgR (Nat.lt_of_lt_of_le (Nat.lt_of_lt_of_le hglt hs1) hg.size), hg.block g (by omega) (own_block_ty hown g cells _ fz hgc (by decide)), h1 g hglt]
  · rw [Array.getElem?_setIfInBounds_ne (by omega), Array.getElem?_setIfInBounds_self_of_lt (by omega)]
  · rw [oldsV_cons]
    have hgn : w2.grownBy (repNext w2 R o nn v') (some R) := by
      refine ⟨?_, ?_, ?_, by rw [repNext_size]; omega, fun k hk hne => hold k (fun h => hne (by rw [h])) hk⟩
      all_goals (have hb := below_bytesWorld (w2.setCell ⟨R, 256, none⟩ v') 5 ⟨nn.toArray⟩; unfold repNext)
      · exact hb.os
      · exact hb.tape
      · exact hb.output
    exact hown2.kept hgn (.inr fun h => own_block_ty hown2 R cur _ _ hR2 (by decide) h.symm)

set_option maxRecDepth 100000 in
set_option maxHeartbeats 2000000 in
theorem rep_build (ps : Pairs) (b g c m : Nat) (w : World) (hpm : ps.length = m) (hm : 2 ≤ m) (hm2 : m ≤ 256) (hc : 2 * m ≤ c) (hcell : w.cell? ⟨b, 4, none⟩ = some (.slice (some ⟨g, 0, none⟩) (2 * m) c)) (hst : StrsAt w g (oldnew ps)) (hg : g < w.heap.size)
    (hnot : ∃ i, i < ps.length ∧ (ps.getD i (0, [])).2.length ≠ 1) (hnd : (ps.map (·.1)).Nodup) (hlong : ∀ p ∈ ps, p.2.length ≤ 1000) :
    Calls Tryz.prog 220 #[.pointer (some ⟨b, 0, none⟩)] w fun e w' => ∃ R, e = .returned (.iface 306 (.pointer (some ⟨R, 0, none⟩))) ∧ RepAt w' w.heap.size R ps ∧ Below w.heap.size w w' := by
  have hstr : ∀ k, k < m → w.cell? ⟨g, 2 * k, none⟩ = some (.string ⟨#[(ps.getD k (0, [])).1]⟩) ∧ w.cell? ⟨g, 2 * k + 1, none⟩ = some (.string ⟨(ps.getD k (0, [])).2.toArray⟩) := fun k hk => by
    have h := oldnew_even ps (0, []) k (by omega)
    have hl := oldnew_length ps
    rw [hst (2 * k) (by omega), hst (2 * k + 1) (by omega), h.1, h.2]
    exact ⟨rfl, rfl⟩
  have HS : Hid (∀ k, k < m → w.cell? ⟨g, 2 * k, none⟩ = some (.string ⟨#[(ps.getD k (0, [])).1]⟩) ∧ w.cell? ⟨g, 2 * k + 1, none⟩ = some (.string ⟨(ps.getD k (0, [])).2.toArray⟩)) := hstr
  have hc0 := (hstr 0 (by omega)).1
  have HA : Hid (allB ps m = false) := by rw [← hpm]; exact allB_not ps hnot
  have HP : Hid (ps.length = m) := hpm
  clear hst hstr hnot hpm
  go_enter Tryz.func220, Tryz.ntmps220
  go_wp2
  go_loop [4, 5] (fun al i => ∃ k : Nat, k ≤ m ∧ i = .int .i64 (2 * (k : Int)) ∧ al = .bool (allB ps k)) (fun _ i => 2 * m - (intOf i).toNat)
  case atStart => exact ⟨0, by omega, rfl, rfl⟩
  case round =>
    obtain ⟨k, hk, rfl, rfl⟩ := hrel
    by_cases hlt : k < m
    · have hck := HS.out k hlt
      obtain ⟨hck1, hck2⟩ := hck
      have HB : Hid (allB ps (k + 1) = (allB ps k && ((ps.getD k (0, [])).2.length == 1))) := allB_succ ps k (by rw [HP.out]; exact hlt)
      generalize (ps.getD k (0, [])).2 = nn at *
      generalize (ps.getD k (0, [])).1 = oo at *
      by_cases hn1 : nn.length = 1
      · have HE : Hid (allB ps (k + 1) = allB ps k) := by show _ = _; rw [HB.out, hn1]; simp
        go_wp2
        refine ⟨⟨k + 1, by omega, by go_num, by rw [HE.out]⟩, by simp [intOf]; omega⟩
      · have HE : Hid (allB ps (k + 1) = false) := by show _ = _; rw [HB.out]; simp [hn1]
        go_wp2
        refine ⟨⟨k + 1, by omega, by go_num, by rw [HE.out]⟩, by simp [intOf]; omega⟩
    · obtain rfl : k = m := by omega
      rw [HA.out]
      obtain ⟨i0, hi, hz0, hz1, hz2⟩ := info_parts sinfo
      obtain ⟨W2, hmk, hownT, hgrT⟩ := run_make_own (P := Tryz.prog) w w.heap.size 39 9 i0 (.string ByteArray.empty) 1 Tryz.underlying39 hi hz0 hz1 .i64 .i64 k (by rw [hz2]; omega) (by unfold maxLen; omega) (Nat.le_refl _)
      have hst1 := rep_store W2 (.slice (some ⟨w.heap.size, 0, none⟩) 0 k) rfl
      have hR : Hid (RepAt (repW W2 (.slice (some ⟨w.heap.size, 0, none⟩) 0 k)) w.heap.size W2.heap.size []) := rep_new W2 _ w.heap.size hgrT.size hownT
      have hB : Below w.heap.size w (repW W2 (.slice (some ⟨w.heap.size, 0, none⟩) 0 k)) := ((Below.refl _ _).grown hgrT (Nat.le_refl _) (by simp)).trans ((rep_below W2 _).mono hgrT.size)
      generalize repW W2 (.slice (some ⟨w.heap.size, 0, none⟩) 0 k) = W3 at *
      go_wp2
      clear hst1 hmk
      have HN : Hid ((ps.map (·.1)).Nodup) := hnd
      have HL : Hid (∀ p ∈ ps, p.2.length ≤ 1000) := hlong
      clear hnd hlong
      go_loopw [12] (fun i wr => ∃ j : Nat, j ≤ k ∧ i = .int .i64 (2 * (j : Int) - 2) ∧ Hid (RepAt wr w.heap.size W2.heap.size (ps.drop j)) ∧ Below w.heap.size w wr) (fun i _ => (intOf i + 2).toNat)
      case atStart =>
        refine ⟨k, by omega, rfl, ?_, hB⟩
        rw [← HP.out, List.drop_length]; exact hR
      case round =>
        obtain ⟨j, hj, rfl, hrep, hbl⟩ := hrel
        clear hR hB
        cases j with
        | zero =>
          go_wp2
          go_ret
          exact ⟨_, rfl, by have h := hrep.out; rwa [List.drop_zero] at h, hbl⟩
        | succ j =>
          have e : Value.int .i64 (2 * ((j + 1 : Nat) : Int) - 2) = .int .i64 (2 * (j : Int)) := by go_num
          rw [e]
          clear e
          obtain ⟨hBR, cur, vT, hheap, hcs, hcells, hcT, hown⟩ := hrep.out
          clear hrep
          obtain ⟨hs1, hs2⟩ := HS.out j (by omega)
          have hlook := look_drop ps j (by rw [HP.out]; omega) HN.out
          have hn := HL.out (ps.getD j (0, [])) (by rw [List.getD_eq_getElem?_getD, List.getElem?_eq_getElem (by rw [HP.out]; omega)]; exact List.getElem_mem _)
          have hd : ps.drop j = ps.getD j (0, []) :: ps.drop (j + 1) := by
            rw [List.drop_eq_getElem_cons (by rw [HP.out]; omega), List.getD_eq_getElem?_getD, List.getElem?_eq_getElem (by rw [HP.out]; omega)]
            rfl
          have HD : Hid (ps.drop j = ps.getD j (0, []) :: ps.drop (j + 1)) := hd
          have HQ : (ps.drop (j + 1)).length ≤ 256 := by rw [List.length_drop, HP.out]; omega
          clear hd
          generalize ps.drop (j + 1) = qs at *
          generalize ps.getD j (0, []) = p at *
          obtain ⟨o, nn⟩ := p
          dsimp only at hs1 hs2 hlook hn
          have hg1 : wr.cell? ⟨g, 2 * j, none⟩ = some (.string ⟨#[o]⟩) := (hbl.cell (p := ⟨g, 2 * j, none⟩) hg).trans hs1
          have hg2 : wr.cell? ⟨g, 2 * j + 1, none⟩ = some (.string ⟨nn.toArray⟩) := (hbl.cell (p := ⟨g, 2 * j + 1, none⟩) hg).trans hs2
          have hco : wr.cell? ⟨W2.heap.size, o.toNat, none⟩ = some (.slice none 0 0) := by
            obtain ⟨v, hv, hr⟩ := hcells o
            rw [hlook] at hr
            rw [Lib.cell_of_heap hheap, hv, hr]
          have hc256 : wr.cell? ⟨W2.heap.size, 256, none⟩ = some vT := by rw [Lib.cell_of_heap hheap, hcT]
          clear hs1 hs2
          have HC : Hid (∀ c : UInt8, ∃ v, cur[c.toNat]? = some v ∧ RepCell wr v (look qs c)) := hcells
          clear hcells hlook
          have ho := o.toNat_lt
          have hget : ∀ h : 0 < (⟨#[o]⟩ : ByteArray).size, (⟨#[o]⟩ : ByteArray)[0]'h = o := fun _ => rfl
          have hnil := fun W : World => Lib.run_eql_slice_nil (P := Tryz.prog) W 29 5 none 0 0 0 0 Tryz.underlying29
          have hs1 : strOfNums [(o.toNat : Int)] = ⟨#[o]⟩ := by simp [strOfNums]
          have hcv1 := run_convert_bytes_arg (P := Tryz.prog) (wr.alloc (.cells #[.int .u8 (o.toNat : Int)] 5)) 29 5 Tryz.underlying29 Tryz.underlying5 wr.heap.size 0 1 1 [(o.toNat : Int)] rfl (fun i hi => by
            obtain rfl : i = 0 := by omega
            simp) 9 Tryz.underlying9
          rw [hs1] at hcv1
          clear hs1
          have hown1 := (hown.alloc (.cells #[.int .u8 (o.toNat : Int)] 5)).alloc (.cells #[.string ⟨#[o]⟩] 9)
          have hz := hbl.size
          go_wp2_with (at_builtin; refine wpList_append_own _ rfl _ _ 39 rfl w.heap.size 9 i0 (.string ByteArray.empty) 1 16 Tryz.underlying39 hi hz0 hz1 hz2 rfl (by decide) _ _ _ rfl hown1 ⟨wr.heap.size + 1, 0, none⟩ 1 1 [.string ⟨#[o]⟩] rfl rfl ?c1 ?c2 ?c3 ?c4 ?c5 ?_)
          case c1 =>
            intro i u hi
            match i, hi with
            | 0, hi => simp at hi; subst hi; simp [Addr.add]
          case c2 => intro u hu; simp at hu; subst hu; rfl
          case c3 => unfold maxLen; omega
          case c4 => omega
          case c5 => simp; omega
          intro v' w2 hown2 hgr _
          have hstep := rep_step w.heap.size W2.heap.size qs o nn wr _ w2 cur vT v' hBR hheap hcs HC.out hown (fun k hk => by
            rw [Lib.alloc_old _ _ k (by simp; omega), Lib.alloc_old _ _ k hk]) (by simp; omega) hgr hown2 hn
          have hbl2 : Below w.heap.size w w2 := ((hbl.alloc hz _).alloc (by simp; omega) _).grown hgr (by simp; omega) (fun q hq => (hown1.lt q hq).1)
          have hRlt : W2.heap.size < wr.heap.size := (Array.getElem?_eq_some_iff.1 hheap).1
          have hR2 : w2.heap[W2.heap.size]? = some (.cells cur 305 (0, 0)) := by
            rw [hgr.block _ (by simp; omega) (own_block_ty hown _ cur _ _ hheap (by decide)), Lib.alloc_old _ _ _ (by simp; omega), Lib.alloc_old _ _ _ hRlt, hheap]
          have d1 : w2.cell? ⟨W2.heap.size, 256, none⟩ = some vT := by rw [Lib.cell_of_heap hR2, hcT]
          have d2 : w2.frozen? ⟨W2.heap.size, 256, none⟩ = false := Lib.frozen_of_heap hR2 256
          obtain ⟨g', cap', rfl⟩ : ∃ g cap, v' = .slice (some ⟨g, 0, none⟩) (qs.length + 1) cap := by
            rcases hown2.2 with ⟨_, h0⟩ | ⟨g, cap, cur, hv, _⟩
            · omega
            · exact ⟨g, cap, hv⟩
          have hsz : (⟨nn.toArray⟩ : ByteArray).size = nn.length := by show nn.toArray.size = _; simp
          have hcv2 := Lib.run_convert_string_bytes (P := Tryz.prog) (w2.setCell ⟨W2.heap.size, 256, none⟩ (.slice (some ⟨g', 0, none⟩) (qs.length + 1) cap')) 9 29 5 ⟨nn.toArray⟩ Tryz.underlying9 Tryz.underlying29 Tryz.underlying5
          rw [hsz, World.size_setCell] at hcv2
          have HS4 : Hid (RepAt ((Lib.bytesWorld (w2.setCell ⟨W2.heap.size, 256, none⟩ (.slice (some ⟨g', 0, none⟩) (qs.length + 1) cap')) 5 ⟨nn.toArray⟩).setCell ⟨W2.heap.size, o.toNat, none⟩ (.slice (some ⟨w2.heap.size, 0, none⟩) nn.length (grownCap (w2.setCell ⟨W2.heap.size, 256, none⟩ (.slice (some ⟨g', 0, none⟩) (qs.length + 1) cap')) nn.length 0 5))) w.heap.size W2.heap.size ((o, nn) :: qs)) := hstep
          have hb4 : Below w.heap.size w (Lib.bytesWorld (w2.setCell ⟨W2.heap.size, 256, none⟩ (.slice (some ⟨g', 0, none⟩) (qs.length + 1) cap')) 5 ⟨nn.toArray⟩) :=
            (hbl2.setCell (p := ⟨W2.heap.size, 256, none⟩) hBR _).trans ((below_bytesWorld _ _ _).mono (by rw [World.size_setCell]; exact hbl2.size))
          have hR3 : (Lib.bytesWorld (w2.setCell ⟨W2.heap.size, 256, none⟩ (.slice (some ⟨g', 0, none⟩) (qs.length + 1) cap')) 5 ⟨nn.toArray⟩).heap[W2.heap.size]? = some (.cells (cur.setIfInBounds 256 (.slice (some ⟨g', 0, none⟩) (qs.length + 1) cap')) 305 (0, 0)) := by
            rw [Lib.bytesWorld_at_old _ _ _ _ (by rw [World.size_setCell]; exact (Array.getElem?_eq_some_iff.1 hR2).1)]
            exact heap_setCell_same _ _ _ _ _ _ hR2
          generalize Lib.bytesWorld (w2.setCell ⟨W2.heap.size, 256, none⟩ (.slice (some ⟨g', 0, none⟩) (qs.length + 1) cap')) 5 ⟨nn.toArray⟩ = W4 at *
          generalize grownCap (w2.setCell ⟨W2.heap.size, 256, none⟩ (.slice (some ⟨g', 0, none⟩) (qs.length + 1) cap')) nn.length 0 5 = c4 at *
          have hz4 := (Array.getElem?_eq_some_iff.1 hR3).1
          have d3 : W4.frozen? ⟨W2.heap.size, o.toNat, none⟩ = false := Lib.frozen_of_heap hR3 _
          have d4 : ∃ v, W4.cell? ⟨W2.heap.size, o.toNat, none⟩ = some v := by
            rw [Lib.cell_of_heap hR3]
            exact ⟨_, Array.getElem?_eq_getElem (by simp; omega)⟩
          obtain ⟨v4, d4⟩ := d4
          clear hstep hgr hown2 hown1 hown hheap hco hc256 hcT hR2 hR3 hbl
          go_wp2
          refine ⟨⟨j, by omega, by go_num, by rw [HD.out]; exact HS4, hb4.setCell (p := ⟨W2.heap.size, o.toNat, none⟩) hBR _⟩, by simp [intOf]; omega⟩
end Go.Proofs.YtibgiohijknmbaaGreatDoor
