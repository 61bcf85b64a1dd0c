/-
  Joined texts: Base, RepB, Build, Esc, Url.
-/
import Derived.WalkKit
import Derived.WalkSpells
import Derived.WalkLawsBesides
import Derived.Lib.ConvBytes
import Derived.Test.YtibgiohijknmbaaGreatDoorProg
import Derived.Deep.LoopGhost
import Derived.Lib.Builder
import Derived.Lib.AppendStr
import Derived.Laws.Slices
import Derived.Lib.Walk
import Derived.Test.YtibgiohijknmbaaGreatDoorShelf
import Derived.Lib.Hide
import Derived.Laws.BitsLemmas
import Derived.Laws.Strings2
import Derived.StillTailTactics
import Derived.Deep.QuietTactic
import Derived.BigQuiet
import Derived.Maps.OwnSet
import Derived.Maps.Keyed
/-
  Small lemmas on worlds and values that all walks of this seat use: no program in sight.
-/
namespace Go.Proofs.YtibgiohijknmbaaGreatDoor
open Go.RowKit
set_option linter.unusedVariables false
set_option linter.unusedSimpArgs false

theorem ret_b {a b : Bool} (h : a = b) : Ending.returned (.bool a) = .returned (.bool b) := by rw [h]
theorem ret_i {k : IntKind} {a b : Int} (h : a = b) : Ending.returned (.int k a) = .returned (.int k b) := by rw [h]
theorem ret_s {a b : ByteArray} (h : a = b) : Ending.returned (.string a) = .returned (.string b) := by rw [h]

theorem below_bytesWorld (w : World) (e : TypeId) (s : ByteArray) : Below w.heap.size w (Lib.bytesWorld w e s) :=
  ⟨by simp [Lib.bytesWorld, World.freeze, World.alloc, World.drew, -World.alloc_eq, -World.drew_eq], by simp [Lib.bytesWorld, World.freeze, World.alloc, World.drew, -World.alloc_eq, -World.drew_eq],
    by simp [Lib.bytesWorld, World.freeze, World.alloc, World.drew, -World.alloc_eq, -World.drew_eq], by rw [Lib.bytesWorld_size]; omega, fun k hk => Lib.bytesWorld_at_old w e s k hk⟩
theorem bytesCells_size (w : World) (e : TypeId) (s : ByteArray) : s.size ≤ (Lib.bytesCells w e s).size := by
  simp [Lib.bytesCells]
theorem frozen_bytesWorld (w : World) (e : TypeId) (s : ByteArray) (j : Nat) (hj : j < s.size) : (Lib.bytesWorld w e s).frozen? ⟨w.heap.size, j, none⟩ = false := by
  have h := bytesCells_size w e s
  simp only [World.frozen?, Lib.bytesWorld_at_new]
  have : ¬ (Lib.bytesCells w e s).size ≤ j := by omega
  simp [this]

/-- Byte j of a string, as a number. -/
def sAt (s : ByteArray) (j : Nat) : Int := ((s.data.toList.getD j 0).toNat : Int)
theorem sAt_range (s : ByteArray) (j : Nat) : 0 ≤ sAt s j ∧ sAt s j ≤ 255 := by
  unfold sAt
  have := (s.data.toList.getD j 0).toNat_lt
  omega
theorem ofNat_toNat (b : UInt8) : UInt8.ofNat (Int.toNat (b.toNat : Int)) = b := by simp
/-- What a list of numbers, byte by byte out of a string's, is as a string. -/
theorem strOfNums_map (s : ByteArray) (f : Nat → Int) (g : UInt8 → UInt8) (h : ∀ j, j < s.size → f j = ((g (s.data.toList.getD j 0)).toNat : Int)) :
    strOfNums ((List.range s.size).map f) = ⟨(s.data.toList.map g).toArray⟩ := by
  have sz : s.size = s.data.toList.length := by rw [Array.length_toList]; rfl
  unfold strOfNums
  congr 2
  apply List.ext_getElem
  · simp
  · intro i h1 h2
    have hi : i < s.size := by simpa using h1
    have hi' : i < s.data.toList.length := by rw [← sz]; exact hi
    simp only [List.getElem_map, List.getElem_range]
    rw [h i hi, List.getD_eq_getElem?_getD, List.getElem?_eq_getElem hi']
    simp

/-- A row of the call's own stays one in a later world. -/
theorem own_later {w w1 : World} {base : Nat} {e : TypeId} {size n : Nat} {v : Value} {xs : List Value} (h : w.ownsRow base e size v n xs) (hb : Below w.heap.size w w1) : w1.ownsRow base e size v n xs :=
  h.kept (w' := w1) (row := none) ⟨hb.os, hb.tape, hb.output, hb.size, fun i hi _ => hb.block i hi⟩ (by cases v.ownBlock <;> simp)
theorem below_from {B : Nat} {w w1 w2 : World} (h : Below B w w1) (hB : B ≤ w1.heap.size) (k : Below w1.heap.size w1 w2) : Below B w w2 := h.trans (k.mono hB)
/-- Bytes in memory. -/
def BytesAt (w : World) (b off : Nat) (l : List UInt8) : Prop := ∀ j, j < l.length → w.cell? ⟨b, off + j, none⟩ = some (.int .u8 ((l.getD j 0).toNat : Int))
theorem BytesAt.below {w w1 : World} {b off : Nat} {l : List UInt8} (h : BytesAt w b off l) {B : Nat} (hb : Below B w w1) (hlt : b < B) : BytesAt w1 b off l :=
  fun j hj => (hb.cell (p := ⟨b, off + j, none⟩) hlt).trans (h j hj)
theorem BytesAt.drop {w : World} {b off : Nat} {l : List UInt8} (h : BytesAt w b off l) (n : Nat) : BytesAt w b (off + n) (l.drop n) := fun j hj => by
  have hj' : n + j < l.length := by rw [List.length_drop] at hj; omega
  have := h (n + j) hj'
  rw [Nat.add_assoc, this]
  simp [List.getD_eq_getElem?_getD]
theorem addr_add0 (g j : Nat) : (⟨g, 0, none⟩ : Addr).add j = ⟨g, j, none⟩ := by unfold Addr.add; split <;> simp_all
def lenOf : Value → Nat
  | .slice _ n _ => n
  | _ => 0
end Go.Proofs.YtibgiohijknmbaaGreatDoor

/-
  strings.Replacer over single bytes: build.
-/
namespace Go.Proofs.YtibgiohijknmbaaGreatDoor
open Go.RowKit
set_option linter.unusedVariables false
set_option linter.unusedSimpArgs false

abbrev Pairs := List (UInt8 × List UInt8)
def oldnew (ps : Pairs) : List ByteArray := ps.flatMap fun p => [⟨#[p.1]⟩, ⟨p.2.toArray⟩]
/-- Strings in memory. -/
def StrsAt (w : World) (g : Nat) (ss : List ByteArray) : Prop := ∀ j, j < ss.length → w.cell? ⟨g, j, none⟩ = some (.string (ss.getD j ByteArray.empty))
theorem oldnew_length (ps : Pairs) : (oldnew ps).length = 2 * ps.length := by
  induction ps with
  | nil => rfl
  | cons p t ih =>
    have : oldnew (p :: t) = [⟨#[p.1]⟩, ⟨p.2.toArray⟩] ++ oldnew t := by simp [oldnew]
    rw [this, List.length_append, ih]
    simp
    omega
theorem oldnew_even (ps : Pairs) (d : UInt8 × List UInt8) : ∀ i, i < ps.length → (oldnew ps).getD (2 * i) ByteArray.empty = ⟨#[(ps.getD i d).1]⟩ ∧ (oldnew ps).getD (2 * i + 1) ByteArray.empty = ⟨(ps.getD i d).2.toArray⟩ := by
  induction ps with
  | nil => intro i h; simp at h
  | cons p t ih =>
    intro i h
    have e : oldnew (p :: t) = ⟨#[p.1]⟩ :: ⟨p.2.toArray⟩ :: oldnew t := by simp [oldnew]
    rw [e]
    cases i with
    | zero => simp
    | succ i =>
      have := ih i (by simpa using h)
      rw [show 2 * (i + 1) = (2 * i + 1) + 1 by omega, show (2 * i + 1) + 1 + 1 = (2 * i + 1 + 1) + 1 by omega]
      simpa using this

def allB (ps : Pairs) (k : Nat) : Bool := (ps.take k).all fun p => p.2.length == 1
theorem allB_succ (ps : Pairs) (k : Nat) (h : k < ps.length) : allB ps (k + 1) = (allB ps k && ((ps.getD k (0, [])).2.length == 1)) := by
  unfold allB
  rw [List.take_succ_eq_append_getElem h, List.all_append, List.getD_eq_getElem?_getD, List.getElem?_eq_getElem h]
  simp
theorem allB_not (ps : Pairs) (h : ∃ i, i < ps.length ∧ (ps.getD i (0, [])).2.length ≠ 1) : allB ps ps.length = false := by
  obtain ⟨i, hi, hn⟩ := h
  unfold allB
  rw [List.take_length, List.all_eq_false]
  refine ⟨ps.getD i (0, []), ?_, by simpa using hn⟩
  rw [List.getD_eq_getElem?_getD, List.getElem?_eq_getElem hi]
  exact List.getElem_mem hi

theorem sinfo : (Tryz.prog.info? 9).map (fun i => (i.zero, i.size, i.bytes)) = some (some (.string ByteArray.empty), 1, 16) := by kernel_rfl
theorem zrep : Tryz.zeroCells305.toList = List.replicate 257 (.slice none 0 0) := by kernel_rfl

/-- What is laid for a byte. -/
def look (qs : Pairs) (c : UInt8) : Option (List UInt8) := (qs.find? fun p => p.1 == c).map (·.2)
/-- A byte's cell of a replacer: nil, or a slice of the bytes that stand for it. -/
def RepCell (w : World) (v : Value) : Option (List UInt8) → Prop
  | none => v = .slice none 0 0
  | some n => ∃ g cap, v = .slice (some ⟨g, 0, none⟩) n.length cap ∧ n.length ≤ cap ∧ cap ≤ 9223372036854775807 ∧ BytesAt w g 0 n ∧ ∃ cells fz, w.heap[g]? = some (.cells cells 5 fz)
def oldsV (qs : Pairs) : List Value := qs.reverse.map fun p => .string ⟨#[p.1]⟩
/-- A byteStringReplacer in block R, from block B on the call's own. -/
structure RepAt (w : World) (B R : Nat) (qs : Pairs) : Prop where
  base : B ≤ R
  row : ∃ cur vT, w.heap[R]? = some (.cells cur 305 (0, 0)) ∧ cur.size = 257 ∧ (∀ c : UInt8, ∃ v, cur[c.toNat]? = some v ∧ RepCell w v (look qs c)) ∧ cur[256]? = some vT ∧ w.ownsRow B 9 1 vT qs.length (oldsV qs)

theorem look_drop (ps : Pairs) (j : Nat) (hj : j < ps.length) (hn : (ps.map (·.1)).Nodup) : look (ps.drop (j + 1)) (ps.getD j (0, [])).1 = none := by
  unfold look
  rw [List.find?_eq_none.2]
  · rfl
  · intro p hp hpe
    have hd : (ps.drop j).map (·.1) = (ps.getD j (0, [])).1 :: (ps.drop (j + 1)).map (·.1) := by
      rw [List.drop_eq_getElem_cons hj, List.getD_eq_getElem?_getD, List.getElem?_eq_getElem hj]
      rfl
    have h2 : ((ps.drop j).map (·.1)).Nodup := by
      rw [List.map_drop]
      exact List.Nodup.sublist (List.drop_sublist _ _) hn
    rw [hd, List.nodup_cons] at h2
    exact h2.1 (List.mem_map.2 ⟨p, hp, by simpa using hpe⟩)
theorem heap_last (w : World) (o : Obj) : (w.alloc o).heap[w.heap.size]? = some o := by
  show (w.heap.push o)[w.heap.size]? = _
  rw [Array.getElem?_push, if_pos rfl]
noncomputable def repW (W : World) (v : Value) : World := (W.alloc (.cells Tryz.zeroCells305 305)).setRow W.heap.size (Tryz.zeroCells305.toList.set 256 v).toArray
theorem rep_store (W : World) (v : Value) (hv : v.oneCell' = true) :
    (storeCells ⟨W.heap.size, 0, none⟩ (Tryz.zeroCells305.toList.set 256 v)).run Tryz.prog (W.alloc (.cells Tryz.zeroCells305 305)) = .ok () (repW W v) := by
  have hsz := Tryz.zeroCells305_size
  have h := run_storeCells_from (P := Tryz.prog) W.heap.size 305 (Tryz.zeroCells305.toList.set 256 v) 0 Tryz.zeroCells305 (W.alloc (.cells Tryz.zeroCells305 305)) (heap_last W _) (by rw [List.length_set, Array.length_toList, hsz]) (by
    intro u hu
    rcases List.mem_or_eq_of_mem_set hu with h | h
    · rw [zrep] at h
      rw [List.eq_of_mem_replicate h]
      rfl
    · rw [h]; exact hv)
  rw [List.take_zero, List.nil_append] at h
  exact h
theorem rep_heap (W : World) (v : Value) : (repW W v).heap[W.heap.size]? = some (.cells (Tryz.zeroCells305.toList.set 256 v).toArray 305 (0, 0)) := by
  unfold repW
  exact setRow_heap _ _ _ _ _ _ (heap_last W _)
theorem rep_below (W : World) (v : Value) : Below W.heap.size W (repW W v) := by
  unfold repW
  refine ((Below.refl _ W).alloc (Nat.le_refl _) _).trans ⟨rfl, rfl, rfl, by rw [setRow_size]; exact Nat.le_refl _, fun k hk => setRow_other _ _ _ _ (by omega)⟩
theorem rep_new (W : World) (v : Value) (B : Nat) (hB : B ≤ W.heap.size) (hv : W.ownsRow B 9 1 v 0 []) : RepAt (repW W v) B W.heap.size [] := by
  refine ⟨hB, _, v, rep_heap W v, ?_, ?_, ?_, own_later hv (rep_below W v)⟩
  · rw [List.size_toArray, List.length_set, Array.length_toList]
    exact Tryz.zeroCells305_size
  · intro c
    have hc := c.toNat_lt
    refine ⟨.slice none 0 0, ?_, rfl⟩
    rw [List.getElem?_toArray, List.getElem?_set_ne (by omega), zrep, List.getElem?_replicate]
    rw [if_pos (by omega)]
  · rw [List.getElem?_toArray, List.getElem?_set_self (by rw [zrep, List.length_replicate]; decide)]

theorem bytes_of_block {w w' : World} {g off : Nat} {l : List UInt8} (h : BytesAt w g off l) (e : w'.heap[g]? = w.heap[g]?) : BytesAt w' g off l := fun j hj => by
  have := h j hj
  simp only [World.cell?] at this ⊢
  rw [e]
  exact this
theorem cell_of_block {w w' : World} {v : Value} {x : Option (List UInt8)} (h : RepCell w v x) (e : ∀ (g : Nat) (cells : Array Value) (fz : Nat × Nat), w.heap[g]? = some (Obj.cells cells 5 fz) → w'.heap[g]? = w.heap[g]?) : RepCell w' v x := by
  cases x with
  | none => exact h
  | some n =>
    obtain ⟨g, cap, hv, h1, h2, h3, cells, fz, hc⟩ := h
    have eg := e g cells fz hc
    exact ⟨g, cap, hv, h1, h2, bytes_of_block h3 eg, cells, fz, eg.trans hc⟩
theorem oldsV_cons (p : UInt8 × List UInt8) (qs : Pairs) : oldsV (p :: qs) = oldsV qs ++ [.string ⟨#[p.1]⟩] := by simp [oldsV]
theorem own_block_ty {w : World} {B n : Nat} {v : Value} {xs : List Value} {e : TypeId} (h : w.ownsRow B e 1 v n xs) (g : Nat) (cells : Array Value) (T : TypeId) (fz : Nat × Nat) (hg : w.heap[g]? = some (.cells cells T fz)) (hT : T ≠ e) : some g ≠ v.ownBlock := by
  rcases h.2 with ⟨rfl, _⟩ | ⟨k, cap, cur, rfl, _, hh, _⟩
  · simp [Value.ownBlock]
  · intro hk
    have : g = k := by simpa [Value.ownBlock] using hk
    subst this
    rw [hg] at hh
    injection hh with hh
    injection hh with _ ht
    exact hT ht
def repNext (w2 : World) (R : Nat) (o : UInt8) (nn : List UInt8) (v' : Value) : World :=
  (Lib.bytesWorld (w2.setCell ⟨R, 256, none⟩ v') 5 ⟨nn.toArray⟩).setCell ⟨R, o.toNat, none⟩ (.slice (some ⟨w2.heap.size, 0, none⟩) nn.length (grownCap (w2.setCell ⟨R, 256, none⟩ v') nn.length 0 5))
theorem repNext_block (w2 : World) (R : Nat) (o : UInt8) (nn : List UInt8) (v' : Value) (k : Nat) (hk : k ≠ R) (hlt : k < w2.heap.size) : (repNext w2 R o nn v').heap[k]? = w2.heap[k]? := by
  unfold repNext
  rw [heap_setCell_other _ _ _ _ hk, Lib.bytesWorld_at_old _ _ _ _ (by rw [World.size_setCell]; exact hlt), heap_setCell_other _ _ _ _ hk]
theorem repNext_size (w2 : World) (R : Nat) (o : UInt8) (nn : List UInt8) (v' : Value) : (repNext w2 R o nn v').heap.size = w2.heap.size + 1 := by
  unfold repNext
  rw [World.size_setCell, Lib.bytesWorld_size, World.size_setCell]
theorem rep_step (B R : Nat) (qs : Pairs) (o : UInt8) (nn : List UInt8) (wr w1 w2 : World) (cur : Array Value) (vT v' : Value) (hBR : B ≤ R)
    (hheap : wr.heap[R]? = some (.cells cur 305 (0, 0))) (hcs : cur.size = 257) (hcells : ∀ c : UInt8, ∃ v, cur[c.toNat]? = some v ∧ RepCell wr v (look qs c)) (hown : wr.ownsRow B 9 1 vT qs.length (oldsV qs))
    (h1 : ∀ k, k < wr.heap.size → w1.heap[k]? = wr.heap[k]?) (hs1 : wr.heap.size ≤ w1.heap.size) (hg : w1.grownBy w2 vT.ownBlock) (hown2 : w2.ownsRow B 9 1 v' (qs.length + 1) (oldsV qs ++ [.string ⟨#[o]⟩])) (hn : nn.length ≤ 1000) :
    RepAt (repNext w2 R o nn v') B R ((o, nn) :: qs) := by
  have hRlt : R < wr.heap.size := (Array.getElem?_eq_some_iff.1 hheap).1
  have hR2 : w2.heap[R]? = some (.cells cur 305 (0, 0)) := by
    rw [hg.block R (by omega) (own_block_ty hown R cur _ _ hheap (by decide)), h1 R hRlt, hheap]
  have hRlt2 : R < w2.heap.size := (Array.getElem?_eq_some_iff.1 hR2).1
  have hO := o.toNat_lt
  have hsz : (⟨nn.toArray⟩ : ByteArray).size = nn.length := by show nn.toArray.size = _; simp
  have hold : ∀ k, k ≠ R → k < w2.heap.size → (repNext w2 R o nn v').heap[k]? = w2.heap[k]? := repNext_block w2 R o nn v'
  have hS : w2.heap.size = (w2.setCell ⟨R, 256, none⟩ v').heap.size := (World.size_setCell ..).symm
  have hR4 : (repNext w2 R o nn v').heap[R]? = some (.cells ((cur.setIfInBounds 256 v').setIfInBounds o.toNat (.slice (some ⟨w2.heap.size, 0, none⟩) nn.length (grownCap (w2.setCell ⟨R, 256, none⟩ v') nn.length 0 5))) 305 (0, 0)) := by
    unfold repNext
    refine heap_setCell_same _ _ _ _ _ _ ?_
    rw [Lib.bytesWorld_at_old _ _ _ _ (by rw [World.size_setCell]; exact hRlt2)]
    exact heap_setCell_same _ _ _ _ _ _ hR2
  refine ⟨hBR, _, v', hR4, by simpa using hcs, fun c => ?_, ?_, ?_⟩
  · by_cases hco : c = o
    · subst hco
      refine ⟨_, by rw [Array.getElem?_setIfInBounds_self_of_lt (by simp; omega)], ?_⟩
      have e : look ((c, nn) :: qs) c = some nn := by simp [look]
      rw [e]
      refine ⟨w2.heap.size, _, rfl, grownCap_ge _ _ _ _, ?_, ?_, ?_⟩
      · have := grownCap_le_maxLen (w2.setCell ⟨R, 256, none⟩ v') nn.length 0 5 (by unfold maxLen; omega)
        unfold maxLen at this
        exact this
      · intro j hj
        unfold repNext
        rw [World.cell?_setCell_other _ _ _ _ (by intro h; injection h; omega), Nat.zero_add, hS, Lib.bytesWorld_cell _ _ _ _ (by rw [hsz]; exact hj)]
      · refine ⟨Lib.bytesCells (w2.setCell ⟨R, 256, none⟩ v') 5 ⟨nn.toArray⟩, ((Lib.bytesCells (w2.setCell ⟨R, 256, none⟩ v') 5 ⟨nn.toArray⟩).size, (Lib.bytesCells (w2.setCell ⟨R, 256, none⟩ v') 5 ⟨nn.toArray⟩).size + 1), ?_⟩
        unfold repNext
        rw [heap_setCell_other _ _ _ _ (by show w2.heap.size ≠ R; omega), hS]
        exact Lib.bytesWorld_at_new _ _ _
    · obtain ⟨v, hv, hr⟩ := hcells c
      have hne : c.toNat ≠ o.toNat := fun h => hco (UInt8.toNat_inj.1 h)
      have hcl := c.toNat_lt
      refine ⟨v, by rw [Array.getElem?_setIfInBounds_ne (Ne.symm hne), Array.getElem?_setIfInBounds_ne (by omega)]; exact hv, ?_⟩
      have e : look ((o, nn) :: qs) c = look qs c := by simp [look, Ne.symm hco]
      rw [e]
      refine cell_of_block hr fun g cells fz hgc => ?_
      have hglt : g < wr.heap.size := (Array.getElem?_eq_some_iff.1 hgc).1
      have hgR : g ≠ R := by
        rintro rfl
        rw [hheap] at hgc
        injection hgc with hgc
        injection hgc with _ ht
        exact absurd ht (by decide)
      rw [hold g hgR (Nat.lt_of_lt_of_le (Nat.lt_of_lt_of_le hglt hs1) hg.size), hg.block g (by omega) (own_block_ty hown g cells _ fz hgc (by decide)), h1 g hglt]
  · rw [Array.getElem?_setIfInBounds_ne (by omega), Array.getElem?_setIfInBounds_self_of_lt (by omega)]
  · rw [oldsV_cons]
    have hgn : w2.grownBy (repNext w2 R o nn v') (some R) := by
      refine ⟨?_, ?_, ?_, by rw [repNext_size]; omega, fun k hk hne => hold k (fun h => hne (by rw [h])) hk⟩
      all_goals (have hb := below_bytesWorld (w2.setCell ⟨R, 256, none⟩ v') 5 ⟨nn.toArray⟩; unfold repNext)
      · exact hb.os
      · exact hb.tape
      · exact hb.output
    exact hown2.kept hgn (.inr fun h => own_block_ty hown2 R cur _ _ hR2 (by decide) h.symm)

set_option maxRecDepth 100000 in
set_option maxHeartbeats 2000000 in
theorem rep_build (ps : Pairs) (b g c m : Nat) (w : World) (hpm : ps.length = m) (hm : 2 ≤ m) (hm2 : m ≤ 256) (hc : 2 * m ≤ c) (hcell : w.cell? ⟨b, 4, none⟩ = some (.slice (some ⟨g, 0, none⟩) (2 * m) c)) (hst : StrsAt w g (oldnew ps)) (hg : g < w.heap.size)
    (hnot : ∃ i, i < ps.length ∧ (ps.getD i (0, [])).2.length ≠ 1) (hnd : (ps.map (·.1)).Nodup) (hlong : ∀ p ∈ ps, p.2.length ≤ 1000) :
    Calls Tryz.prog 220 #[.pointer (some ⟨b, 0, none⟩)] w fun e w' => ∃ R, e = .returned (.iface 306 (.pointer (some ⟨R, 0, none⟩))) ∧ RepAt w' w.heap.size R ps ∧ Below w.heap.size w w' := by
  have hstr : ∀ k, k < m → w.cell? ⟨g, 2 * k, none⟩ = some (.string ⟨#[(ps.getD k (0, [])).1]⟩) ∧ w.cell? ⟨g, 2 * k + 1, none⟩ = some (.string ⟨(ps.getD k (0, [])).2.toArray⟩) := fun k hk => by
    have h := oldnew_even ps (0, []) k (by omega)
    have hl := oldnew_length ps
    rw [hst (2 * k) (by omega), hst (2 * k + 1) (by omega), h.1, h.2]
    exact ⟨rfl, rfl⟩
  have HS : Hid (∀ k, k < m → w.cell? ⟨g, 2 * k, none⟩ = some (.string ⟨#[(ps.getD k (0, [])).1]⟩) ∧ w.cell? ⟨g, 2 * k + 1, none⟩ = some (.string ⟨(ps.getD k (0, [])).2.toArray⟩)) := hstr
  have hc0 := (hstr 0 (by omega)).1
  have HA : Hid (allB ps m = false) := by rw [← hpm]; exact allB_not ps hnot
  have HP : Hid (ps.length = m) := hpm
  clear hst hstr hnot hpm
  go_enter Tryz.func220, Tryz.ntmps220
  go_wp2
  go_loop [4, 5] (fun al i => ∃ k : Nat, k ≤ m ∧ i = .int .i64 (2 * (k : Int)) ∧ al = .bool (allB ps k)) (fun _ i => 2 * m - (intOf i).toNat)
  case atStart => exact ⟨0, by omega, rfl, rfl⟩
  case round =>
    obtain ⟨k, hk, rfl, rfl⟩ := hrel
    by_cases hlt : k < m
    · have hck := HS.out k hlt
      obtain ⟨hck1, hck2⟩ := hck
      have HB : Hid (allB ps (k + 1) = (allB ps k && ((ps.getD k (0, [])).2.length == 1))) := allB_succ ps k (by rw [HP.out]; exact hlt)
      generalize (ps.getD k (0, [])).2 = nn at *
      generalize (ps.getD k (0, [])).1 = oo at *
      by_cases hn1 : nn.length = 1
      · have HE : Hid (allB ps (k + 1) = allB ps k) := by show _ = _; rw [HB.out, hn1]; simp
        go_wp2
        refine ⟨⟨k + 1, by omega, by go_num, by rw [HE.out]⟩, by simp [intOf]; omega⟩
      · have HE : Hid (allB ps (k + 1) = false) := by show _ = _; rw [HB.out]; simp [hn1]
        go_wp2
        refine ⟨⟨k + 1, by omega, by go_num, by rw [HE.out]⟩, by simp [intOf]; omega⟩
    · obtain rfl : k = m := by omega
      rw [HA.out]
      obtain ⟨i0, hi, hz0, hz1, hz2⟩ := info_parts sinfo
      obtain ⟨W2, hmk, hownT, hgrT⟩ := run_make_own (P := Tryz.prog) w w.heap.size 39 9 i0 (.string ByteArray.empty) 1 Tryz.underlying39 hi hz0 hz1 .i64 .i64 k (by rw [hz2]; omega) (by unfold maxLen; omega) (Nat.le_refl _)
      have hst1 := rep_store W2 (.slice (some ⟨w.heap.size, 0, none⟩) 0 k) rfl
      have hR : Hid (RepAt (repW W2 (.slice (some ⟨w.heap.size, 0, none⟩) 0 k)) w.heap.size W2.heap.size []) := rep_new W2 _ w.heap.size hgrT.size hownT
      have hB : Below w.heap.size w (repW W2 (.slice (some ⟨w.heap.size, 0, none⟩) 0 k)) := ((Below.refl _ _).grown hgrT (Nat.le_refl _) (by simp)).trans ((rep_below W2 _).mono hgrT.size)
      generalize repW W2 (.slice (some ⟨w.heap.size, 0, none⟩) 0 k) = W3 at *
      go_wp2
      clear hst1 hmk
      have HN : Hid ((ps.map (·.1)).Nodup) := hnd
      have HL : Hid (∀ p ∈ ps, p.2.length ≤ 1000) := hlong
      clear hnd hlong
      go_loopw [12] (fun i wr => ∃ j : Nat, j ≤ k ∧ i = .int .i64 (2 * (j : Int) - 2) ∧ Hid (RepAt wr w.heap.size W2.heap.size (ps.drop j)) ∧ Below w.heap.size w wr) (fun i _ => (intOf i + 2).toNat)
      case atStart =>
        refine ⟨k, by omega, rfl, ?_, hB⟩
        rw [← HP.out, List.drop_length]; exact hR
      case round =>
        obtain ⟨j, hj, rfl, hrep, hbl⟩ := hrel
        clear hR hB
        cases j with
        | zero =>
          go_wp2
          go_ret
          exact ⟨_, rfl, by have h := hrep.out; rwa [List.drop_zero] at h, hbl⟩
        | succ j =>
          have e : Value.int .i64 (2 * ((j + 1 : Nat) : Int) - 2) = .int .i64 (2 * (j : Int)) := by go_num
          rw [e]
          clear e
          obtain ⟨hBR, cur, vT, hheap, hcs, hcells, hcT, hown⟩ := hrep.out
          clear hrep
          obtain ⟨hs1, hs2⟩ := HS.out j (by omega)
          have hlook := look_drop ps j (by rw [HP.out]; omega) HN.out
          have hn := HL.out (ps.getD j (0, [])) (by rw [List.getD_eq_getElem?_getD, List.getElem?_eq_getElem (by rw [HP.out]; omega)]; exact List.getElem_mem _)
          have hd : ps.drop j = ps.getD j (0, []) :: ps.drop (j + 1) := by
            rw [List.drop_eq_getElem_cons (by rw [HP.out]; omega), List.getD_eq_getElem?_getD, List.getElem?_eq_getElem (by rw [HP.out]; omega)]
            rfl
          have HD : Hid (ps.drop j = ps.getD j (0, []) :: ps.drop (j + 1)) := hd
          have HQ : (ps.drop (j + 1)).length ≤ 256 := by rw [List.length_drop, HP.out]; omega
          clear hd
          generalize ps.drop (j + 1) = qs at *
          generalize ps.getD j (0, []) = p at *
          obtain ⟨o, nn⟩ := p
          dsimp only at hs1 hs2 hlook hn
          have hg1 : wr.cell? ⟨g, 2 * j, none⟩ = some (.string ⟨#[o]⟩) := (hbl.cell (p := ⟨g, 2 * j, none⟩) hg).trans hs1
          have hg2 : wr.cell? ⟨g, 2 * j + 1, none⟩ = some (.string ⟨nn.toArray⟩) := (hbl.cell (p := ⟨g, 2 * j + 1, none⟩) hg).trans hs2
          have hco : wr.cell? ⟨W2.heap.size, o.toNat, none⟩ = some (.slice none 0 0) := by
            obtain ⟨v, hv, hr⟩ := hcells o
            rw [hlook] at hr
            rw [Lib.cell_of_heap hheap, hv, hr]
          have hc256 : wr.cell? ⟨W2.heap.size, 256, none⟩ = some vT := by rw [Lib.cell_of_heap hheap, hcT]
          clear hs1 hs2
          have HC : Hid (∀ c : UInt8, ∃ v, cur[c.toNat]? = some v ∧ RepCell wr v (look qs c)) := hcells
          clear hcells hlook
          have ho := o.toNat_lt
          have hget : ∀ h : 0 < (⟨#[o]⟩ : ByteArray).size, (⟨#[o]⟩ : ByteArray)[0]'h = o := fun _ => rfl
          have hnil := fun W : World => Lib.run_eql_slice_nil (P := Tryz.prog) W 29 5 none 0 0 0 0 Tryz.underlying29
          have hs1 : strOfNums [(o.toNat : Int)] = ⟨#[o]⟩ := by simp [strOfNums]
          have hcv1 := run_convert_bytes_arg (P := Tryz.prog) (wr.alloc (.cells #[.int .u8 (o.toNat : Int)] 5)) 29 5 Tryz.underlying29 Tryz.underlying5 wr.heap.size 0 1 1 [(o.toNat : Int)] rfl (fun i hi => by
            obtain rfl : i = 0 := by omega
            simp) 9 Tryz.underlying9
          rw [hs1] at hcv1
          clear hs1
          have hown1 := (hown.alloc (.cells #[.int .u8 (o.toNat : Int)] 5)).alloc (.cells #[.string ⟨#[o]⟩] 9)
          have hz := hbl.size
          go_wp2_with (at_builtin; refine wpList_append_own _ rfl _ _ 39 rfl w.heap.size 9 i0 (.string ByteArray.empty) 1 16 Tryz.underlying39 hi hz0 hz1 hz2 rfl (by decide) _ _ _ rfl hown1 ⟨wr.heap.size + 1, 0, none⟩ 1 1 [.string ⟨#[o]⟩] rfl rfl ?c1 ?c2 ?c3 ?c4 ?c5 ?_)
          case c1 =>
            intro i u hi
            match i, hi with
            | 0, hi => simp at hi; subst hi; simp [Addr.add]
          case c2 => intro u hu; simp at hu; subst hu; rfl
          case c3 => unfold maxLen; omega
          case c4 => omega
          case c5 => simp; omega
          intro v' w2 hown2 hgr _
          have hstep := rep_step w.heap.size W2.heap.size qs o nn wr _ w2 cur vT v' hBR hheap hcs HC.out hown (fun k hk => by
            rw [Lib.alloc_old _ _ k (by simp; omega), Lib.alloc_old _ _ k hk]) (by simp; omega) hgr hown2 hn
          have hbl2 : Below w.heap.size w w2 := ((hbl.alloc hz _).alloc (by simp; omega) _).grown hgr (by simp; omega) (fun q hq => (hown1.lt q hq).1)
          have hRlt : W2.heap.size < wr.heap.size := (Array.getElem?_eq_some_iff.1 hheap).1
          have hR2 : w2.heap[W2.heap.size]? = some (.cells cur 305 (0, 0)) := by
            rw [hgr.block _ (by simp; omega) (own_block_ty hown _ cur _ _ hheap (by decide)), Lib.alloc_old _ _ _ (by simp; omega), Lib.alloc_old _ _ _ hRlt, hheap]
          have d1 : w2.cell? ⟨W2.heap.size, 256, none⟩ = some vT := by rw [Lib.cell_of_heap hR2, hcT]
          have d2 : w2.frozen? ⟨W2.heap.size, 256, none⟩ = false := Lib.frozen_of_heap hR2 256
          obtain ⟨g', cap', rfl⟩ : ∃ g cap, v' = .slice (some ⟨g, 0, none⟩) (qs.length + 1) cap := by
            rcases hown2.2 with ⟨_, h0⟩ | ⟨g, cap, cur, hv, _⟩
            · omega
            · exact ⟨g, cap, hv⟩
          have hsz : (⟨nn.toArray⟩ : ByteArray).size = nn.length := by show nn.toArray.size = _; simp
          have hcv2 := Lib.run_convert_string_bytes (P := Tryz.prog) (w2.setCell ⟨W2.heap.size, 256, none⟩ (.slice (some ⟨g', 0, none⟩) (qs.length + 1) cap')) 9 29 5 ⟨nn.toArray⟩ Tryz.underlying9 Tryz.underlying29 Tryz.underlying5
          rw [hsz, World.size_setCell] at hcv2
          have HS4 : Hid (RepAt ((Lib.bytesWorld (w2.setCell ⟨W2.heap.size, 256, none⟩ (.slice (some ⟨g', 0, none⟩) (qs.length + 1) cap')) 5 ⟨nn.toArray⟩).setCell ⟨W2.heap.size, o.toNat, none⟩ (.slice (some ⟨w2.heap.size, 0, none⟩) nn.length (grownCap (w2.setCell ⟨W2.heap.size, 256, none⟩ (.slice (some ⟨g', 0, none⟩) (qs.length + 1) cap')) nn.length 0 5))) w.heap.size W2.heap.size ((o, nn) :: qs)) := hstep
          have hb4 : Below w.heap.size w (Lib.bytesWorld (w2.setCell ⟨W2.heap.size, 256, none⟩ (.slice (some ⟨g', 0, none⟩) (qs.length + 1) cap')) 5 ⟨nn.toArray⟩) :=
            (hbl2.setCell (p := ⟨W2.heap.size, 256, none⟩) hBR _).trans ((below_bytesWorld _ _ _).mono (by rw [World.size_setCell]; exact hbl2.size))
          have hR3 : (Lib.bytesWorld (w2.setCell ⟨W2.heap.size, 256, none⟩ (.slice (some ⟨g', 0, none⟩) (qs.length + 1) cap')) 5 ⟨nn.toArray⟩).heap[W2.heap.size]? = some (.cells (cur.setIfInBounds 256 (.slice (some ⟨g', 0, none⟩) (qs.length + 1) cap')) 305 (0, 0)) := by
            rw [Lib.bytesWorld_at_old _ _ _ _ (by rw [World.size_setCell]; exact (Array.getElem?_eq_some_iff.1 hR2).1)]
            exact heap_setCell_same _ _ _ _ _ _ hR2
          generalize Lib.bytesWorld (w2.setCell ⟨W2.heap.size, 256, none⟩ (.slice (some ⟨g', 0, none⟩) (qs.length + 1) cap')) 5 ⟨nn.toArray⟩ = W4 at *
          generalize grownCap (w2.setCell ⟨W2.heap.size, 256, none⟩ (.slice (some ⟨g', 0, none⟩) (qs.length + 1) cap')) nn.length 0 5 = c4 at *
          have hz4 := (Array.getElem?_eq_some_iff.1 hR3).1
          have d3 : W4.frozen? ⟨W2.heap.size, o.toNat, none⟩ = false := Lib.frozen_of_heap hR3 _
          have d4 : ∃ v, W4.cell? ⟨W2.heap.size, o.toNat, none⟩ = some v := by
            rw [Lib.cell_of_heap hR3]
            exact ⟨_, Array.getElem?_eq_getElem (by simp; omega)⟩
          obtain ⟨v4, d4⟩ := d4
          clear hstep hgr hown2 hown1 hown hheap hco hc256 hcT hR2 hR3 hbl
          go_wp2
          refine ⟨⟨j, by omega, by go_num, by rw [HD.out]; exact HS4, hb4.setCell (p := ⟨W2.heap.size, o.toNat, none⟩) hBR _⟩, by simp [intOf]; omega⟩
end Go.Proofs.YtibgiohijknmbaaGreatDoor

/-
  strings.Builder at a builder of the call's own: copyCheck, WriteByte, WriteString (String comes off the shelf).
-/
namespace Go.Proofs.YtibgiohijknmbaaGreatDoor
open Go.RowKit
set_option linter.unusedVariables false
set_option linter.unusedSimpArgs false

abbrev tB : Nat := 191
theorem bsize : ∃ j, Tryz.prog.info? 191 = some j ∧ j.size ≠ 0 := by
  have h : (Tryz.prog.info? 191).map (·.size) = some 2 := by kernel_rfl
  obtain ⟨j, hj, hs⟩ := Option.map_eq_some_iff.1 h
  exact ⟨j, hj, by rw [hs]; decide⟩
theorem blies : ∃ j, Tryz.prog.info? 191 = some j := by
  obtain ⟨j, h, _⟩ := bsize
  exact ⟨j, h⟩

set_option maxHeartbeats 1000000 in
set_option maxRecDepth 100000 in
theorem copy_used (b : Nat) (w : World) (h0 : w.cell? ⟨b, 0, none⟩ = some (.pointer (some ⟨b, 0, none⟩))) :
    Calls Tryz.prog 179 #[.pointer (some ⟨b, 0, none⟩)] w fun e w' => e = .returned (.tuple #[]) ∧ w = w' := by
  obtain ⟨j, hj⟩ := blies
  go_enter Tryz.func179, Tryz.ntmps179
  go_wp2
  rw [Lib.run_neq_ptr_same w _ Tryz.underlying189 hj]
  go_wp2
  go_end0
  exact ⟨rfl, rfl⟩

set_option maxHeartbeats 1000000 in
set_option maxRecDepth 100000 in
theorem copy_fresh (b : Nat) (w : World) (h0 : w.cell? ⟨b, 0, none⟩ = some (.pointer none)) (hsh : w.shape? b = some (191, 2)) (hfz : w.frozen? ⟨b, 0, none⟩ = false) :
    Calls Tryz.prog 179 #[.pointer (some ⟨b, 0, none⟩)] w fun e w' => e = .returned (.tuple #[]) ∧ w.setCell ⟨b, 0, none⟩ (.pointer (some ⟨b, 0, none⟩)) = w' := by
  obtain ⟨j, hj, hjs⟩ := bsize
  go_enter Tryz.func179, Tryz.ntmps179
  go_wp2
  rw [Lib.run_to_unsafe w ⟨b, 0, none⟩ Tryz.underlying189 Tryz.underlying275 hj hjs hsh (Nat.zero_lt_succ 1)]
  simp only [Result.andThen]
  rw [Oper.upon_value]
  go_wp2
  rw [run_callFunc_extern Tryz.func234 (by kernel_rfl) (by kernel_rfl) (by kernel_rfl) (e := Extern.AbiNoEscape.same) (by kernel_rfl)]
  rw [Lib.run_noEscape]
  simp only [Result.andThen]
  rw [Oper.upon_value]
  go_wp2
  rw [Lib.run_from_unsafe w ⟨b, 0, none⟩ Tryz.underlying275 Tryz.underlying189 hj hsh (by kernel_rfl)]
  simp only [Result.andThen]
  rw [Oper.upon_value]
  go_wp2
  go_end0
  exact ⟨rfl, rfl⟩

theorem copy_c (B b : Nat) (bs : List Value) (w : World) (h : Lib.IsBuilder 191 5 B b bs w) :
    Calls Tryz.prog 179 #[.pointer (some ⟨b, 0, none⟩)] w fun e w' => e = .returned (.tuple #[]) ∧ Lib.BuilderAt 191 5 B b (.pointer (some ⟨b, 0, none⟩)) bs w' ∧ Below B w w' := by
  rcases h with h | h
  · refine (copy_fresh b w h.cell0 h.shape h.frozen0).mono ?_
    rintro e w' ⟨rfl, rfl⟩
    exact ⟨rfl, h.used _, (Below.refl B w).setCell (p := ⟨b, 0, none⟩) h.1 _⟩
  · refine (copy_used b w h.cell0).mono ?_
    rintro e w' ⟨rfl, rfl⟩
    exact ⟨rfl, h, Below.refl B _⟩

theorem binfo : (Tryz.prog.info? 5).map (fun i => (i.zero, i.size, i.bytes)) = some (some (.int .u8 0), 1, 1) := by kernel_rfl
theorem heap_lt {w : World} {b : Nat} {o : Obj} (h : w.heap[b]? = some o) : b < w.heap.size := by
  rcases Nat.lt_or_ge b w.heap.size with h' | h'
  · exact h'
  · simp [Array.getElem?_eq_none h'] at h

set_option maxHeartbeats 2000000 in
set_option maxRecDepth 100000 in
theorem wbyte_c (B b : Nat) (bs : List Value) (c : Int) (w : World) (h : Lib.IsBuilder 191 5 B b bs w) (hlen : bs.length + 1 ≤ 140737488355328) (hBw : B ≤ w.heap.size) :
    Calls Tryz.prog 176 #[.pointer (some ⟨b, 0, none⟩), .int .u8 c] w fun e w' => e = .returned .nilIface ∧ Lib.BuilderAt 191 5 B b (.pointer (some ⟨b, 0, none⟩)) (bs ++ [.int .u8 c]) w' ∧ Below B w w' := by
  obtain ⟨i0, hi, hz0, hz1, hz2⟩ := info_parts binfo
  go_enter Tryz.func176, Tryz.ntmps176
  go_wp2_with (go_at_call 179; refine (copy_c B b bs _ h).mono ?_)
  rintro e w1 ⟨rfl, ⟨hB, v, hbk, hown, hne⟩, hb1⟩
  have c0 : w1.cell? ⟨b, 0, none⟩ = some (.pointer (some ⟨b, 0, none⟩)) := by rw [Lib.cell_of_heap hbk]; rfl
  have c1 : w1.cell? ⟨b, 1, none⟩ = some v := by rw [Lib.cell_of_heap hbk]; rfl
  have hz := hb1.size
  go_wp2_with (at_builtin; refine wpList_append_own _ rfl _ _ 29 rfl B 5 i0 (.int .u8 0) 1 1 Tryz.underlying29 hi hz0 hz1 hz2 rfl (by decide) _ _ _ rfl (hown.alloc _) ⟨w1.heap.size, 0, none⟩ 1 1 [.int .u8 c] rfl rfl ?c1 ?c2 ?c3 ?c4 ?c5 ?_)
  case c1 =>
    intro j u hj
    match j, hj with
    | 0, hj => simp at hj; subst hj; simp [Addr.add]
  case c2 => intro u hu; simp at hu; subst hu; rfl
  case c3 => unfold maxLen; omega
  case c4 => omega
  case c5 => simp; omega
  intro v' w2 hown' hgrow _
  have hb2 : w2.heap[b]? = some (.cells #[.pointer (some ⟨b, 0, none⟩), v] 191 (0, 0)) := by
    have hlt := heap_lt hbk
    rw [hgrow.block b (by simp; omega) (fun e => hne e.symm), Lib.alloc_old w1 _ b hlt]
    exact hbk
  have d0 : w2.cell? ⟨b, 0, none⟩ = some (.pointer (some ⟨b, 0, none⟩)) := by rw [Lib.cell_of_heap hb2]; rfl
  have d1 : w2.cell? ⟨b, 1, none⟩ = some v := by rw [Lib.cell_of_heap hb2]; rfl
  have f1 : w2.frozen? ⟨b, 1, none⟩ = false := Lib.frozen_of_heap hb2 1
  obtain ⟨g, cap, rfl⟩ : ∃ g cap, v' = .slice (some ⟨g, 0, none⟩) (bs.length + 1) cap := by
    rcases hown'.2 with ⟨_, h0⟩ | ⟨g, cap, cur, hv, _⟩
    · omega
    · exact ⟨g, cap, hv⟩
  go_wp2
  go_ret
  refine ⟨rfl, Lib.BuilderAt.put (T := 191) (e := 5) hB hb2 (bs' := bs ++ [.int .u8 c]) (by simpa using hown') (by decide), ?_⟩
  exact ((hb1.alloc (by omega) _).grown hgrow (by simp; omega) (fun k hk => (hown.lt k hk).1)).setCell (p := ⟨b, 1, none⟩) hB _

set_option maxHeartbeats 2000000 in
set_option maxRecDepth 100000 in
theorem wstring_c (B b : Nat) (bs : List Value) (s : ByteArray) (w : World) (h : Lib.IsBuilder 191 5 B b bs w) (hlen : bs.length + s.size ≤ 140737488355328) (hBw : B ≤ w.heap.size) :
    Calls Tryz.prog 125 #[.pointer (some ⟨b, 0, none⟩), .string s] w fun e w' => e = .returned (.tuple #[.int .i64 s.size, .nilIface]) ∧ Lib.BuilderAt 191 5 B b (.pointer (some ⟨b, 0, none⟩)) (bs ++ Lib.strCells s) w' ∧ Below B w w' := by
  obtain ⟨i0, hi, hz0, hz1, hz2⟩ := info_parts binfo
  go_enter Tryz.func125, Tryz.ntmps125
  go_wp2_with (go_at_call 179; refine (copy_c B b bs _ h).mono ?_)
  rintro e w1 ⟨rfl, ⟨hB, v, hbk, hown, hne⟩, hb1⟩
  have c0 : w1.cell? ⟨b, 0, none⟩ = some (.pointer (some ⟨b, 0, none⟩)) := by rw [Lib.cell_of_heap hbk]; rfl
  have c1 : w1.cell? ⟨b, 1, none⟩ = some v := by rw [Lib.cell_of_heap hbk]; rfl
  have hz := hb1.size
  go_wp2_with (at_builtin; refine Lib.wpList_append_own_string _ rfl _ _ 29 9 rfl B 5 i0 Tryz.underlying29 Tryz.underlying9 hi hz0 hz1 hz2 _ _ _ rfl hown s rfl ?c3 ?c4 ?c5 ?_)
  case c3 => unfold maxLen; omega
  case c4 => omega
  case c5 => omega
  intro v' w2 hown' hgrow _
  have hb2 : w2.heap[b]? = some (.cells #[.pointer (some ⟨b, 0, none⟩), v] 191 (0, 0)) := by
    rw [hgrow.block b (heap_lt hbk) (fun e => hne e.symm)]
    exact hbk
  have d0 : w2.cell? ⟨b, 0, none⟩ = some (.pointer (some ⟨b, 0, none⟩)) := by rw [Lib.cell_of_heap hb2]; rfl
  have d1 : w2.cell? ⟨b, 1, none⟩ = some v := by rw [Lib.cell_of_heap hb2]; rfl
  have f1 : w2.frozen? ⟨b, 1, none⟩ = false := Lib.frozen_of_heap hb2 1
  obtain ⟨ao, n', cap, rfl⟩ : ∃ ao n' cap, v' = .slice ao n' cap := by
    rcases hown'.2 with ⟨hv, _⟩ | ⟨g, cap, cur, hv, _⟩
    · exact ⟨_, _, _, hv⟩
    · exact ⟨_, _, _, hv⟩
  go_wp2
  go_ret2
  refine ⟨rfl, Lib.BuilderAt.put (T := 191) (e := 5) hB hb2 (bs' := bs ++ Lib.strCells s) (by simpa [Lib.strCells_length] using hown') (by decide), ?_⟩
  exact (hb1.grown hgrow (by omega) (fun k hk => (hown.lt k hk).1)).setCell (p := ⟨b, 1, none⟩) hB _
end Go.Proofs.YtibgiohijknmbaaGreatDoor

/-
  escape.signs, In, Encode: what each call answers.
-/
namespace Go.Proofs.YtibgiohijknmbaaGreatDoor
open Go.RowKit
set_option linter.unusedVariables false
set_option linter.unusedSimpArgs false

def signsF (set : Int) : List UInt8 :=
  if set = 1 then [32, 34, 60, 62, 96] else if set = 2 then [32, 34, 35, 60, 62] else if set = 3 then [32, 34, 35, 60, 62, 39] else if set = 4 then [32, 34, 35, 60, 62, 63, 94, 96, 123, 125]
  else if set = 5 then [32, 34, 35, 60, 62, 63, 94, 96, 123, 125, 47, 58, 59, 61, 64, 91, 92, 93, 124] else if set = 6 then [32, 34, 35, 60, 62, 63, 94, 96, 123, 125, 47, 58, 59, 61, 64, 91, 92, 93, 124, 36, 37, 38, 43, 44] else []
theorem signs_c (set : Int) (w : World) (h0 : 0 ≤ set) (h6 : set ≤ 6) :
    Calls Tryz.prog 232 #[.int .i64 set] w fun e w' => e = .returned (.string ⟨(signsF set).toArray⟩) ∧ w = w' := by
  have hs : set = 0 ∨ set = 1 ∨ set = 2 ∨ set = 3 ∨ set = 4 ∨ set = 5 ∨ set = 6 := by omega
  rcases hs with rfl | rfl | rfl | rfl | rfl | rfl | rfl
  all_goals
    clear h0 h6
    go_enter Tryz.func232, Tryz.ntmps232
    go_wp2
    go_ret
    exact ⟨rfl, rfl⟩

def inB (set : Int) (c : UInt8) : Bool := decide (c.toNat < 32) || decide (126 < c.toNat) || decide (0 ≤ Lib.indexByte (signsF set) c)
set_option maxHeartbeats 400000 in
theorem in_c (set : Int) (c : UInt8) (w : World) (h0 : 0 ≤ set) (h6 : set ≤ 6) :
    Calls Tryz.prog 175 #[.int .i64 set, .int .u8 (c.toNat : Int)] w fun e w' => e = .returned (.bool (inB set c)) ∧ w = w' := by
  have hc := c.toNat_lt
  have hb : inB set c = (decide (c.toNat < 32) || decide (126 < c.toNat) || decide (0 ≤ Lib.indexByte (signsF set) c)) := rfl
  have hu : ((c.toNat : Int)).toNat.toUInt8 = c := by simp
  have hib := fun W => Tryz.strings_IndexByte ⟨(signsF set).toArray⟩ (c.toNat : Int) W
  rw [hu] at hib
  have e3 : (⟨(signsF set).toArray⟩ : ByteArray).data.toList = signsF set := rfl
  rw [e3] at hib
  clear hu e3
  generalize hr : inB set c = r at *
  clear hr
  have HB := Lib.hid hb
  clear hb
  have n1 : decide (set < 0) = false := by simpa using h0
  have n2 : decide (6 < set) = false := by simpa using h6
  by_cases h1 : c.toNat < 32
  · have h1' : decide ((c.toNat : Int) < 32) = true := by simp; omega
    clear hib
    have : r = true := by rw [HB.out]; simp [h1]
    subst this
    clear HB
    go_enter Tryz.func175, Tryz.ntmps175
    go_wp2
    go_ret
    exact ⟨rfl, rfl⟩
  · by_cases h2 : 126 < c.toNat
    · clear hib
      have : r = true := by rw [HB.out]; simp [h2]
      subst this
      clear HB
      go_enter Tryz.func175, Tryz.ntmps175
      go_wp2
      go_ret
      exact ⟨rfl, rfl⟩
    · have : r = decide (0 ≤ Lib.indexByte (signsF set) c) := by rw [HB.out]; simp [h1, h2]
      clear HB
      generalize Lib.indexByte (signsF set) c = ix at *
      have h1' : ¬ (c.toNat : Int) < 32 := by omega
      have h2' : ¬ 126 < (c.toNat : Int) := by omega
      by_cases h3 : 0 ≤ ix
      · obtain rfl : r = true := by rw [this]; simpa using h3
        clear this
        go_enter Tryz.func175, Tryz.ntmps175
        go_wp2_with (first | (go_at_call 232; refine (signs_c _ _ h0 h6).mono ?_; rintro e w' ⟨rfl, rfl⟩) | (go_at_call 103; refine (hib _).mono ?_; rintro e w' ⟨rfl, rfl⟩))
        go_ret
        exact ⟨rfl, rfl⟩
      · obtain rfl : r = false := by rw [this]; simpa using h3
        have h3' : decide (0 ≤ ix) = false := by simpa using h3
        clear this
        go_enter Tryz.func175, Tryz.ntmps175
        go_wp2_with (first | (go_at_call 232; refine (signs_c _ _ h0 h6).mono ?_; rintro e w' ⟨rfl, rfl⟩) | (go_at_call 103; refine (hib _).mono ?_; rintro e w' ⟨rfl, rfl⟩))
        go_ret
        exact ⟨rfl, rfl⟩

/-- A byte, escaped. -/
def hexU (n : Nat) : UInt8 := ([48, 49, 50, 51, 52, 53, 54, 55, 56, 57, 65, 66, 67, 68, 69, 70] : List UInt8).getD n 0
def pct (c : UInt8) : List UInt8 := [37, hexU (c.toNat / 16), hexU (c.toNat % 16)]
def escL (set : Int) (l : List UInt8) : List UInt8 := l.flatMap fun c => if inB set c = true then pct c else [c]

theorem byteCells_append (a b : List UInt8) : Lib.byteCells (a ++ b) = Lib.byteCells a ++ Lib.byteCells b := by simp [Lib.byteCells]
theorem escL_snoc (set : Int) (l : List UInt8) (c : UInt8) : escL set (l ++ [c]) = escL set l ++ if inB set c = true then pct c else [c] := by simp [escL]
theorem escL_length (set : Int) (l : List UInt8) : (escL set l).length ≤ 3 * l.length := by
  induction l with
  | nil => simp [escL]
  | cons c r ih =>
    have : escL set (c :: r) = (if inB set c = true then pct c else [c]) ++ escL set r := by simp [escL]
    rw [this, List.length_append, List.length_cons]
    split <;> simp [pct] <;> omega

theorem and15 (c : UInt8) : Go.bits .and .u8 (c.toNat : Int) 15 = ((c.toNat % 16 : Nat) : Int) := by
  have h := c.toNat_lt
  rw [u8_and15 _ (by omega) (by omega)]
  omega
theorem wrap_u8 (z : Int) (h0 : 0 ≤ z) (h1 : z ≤ 255) : IntKind.u8.wrap z = z := wraps_u8 z h0 (by omega)
theorem dig_cut : ∀ x : Fin 16, (([48, 49, 50, 51, 52, 53, 54, 55, 56, 57, 65, 66, 67, 68, 69, 70] : List UInt8).drop x.val).take (x.val + 1 - x.val) = [hexU x.val] := by decide
theorem dig_run (x : Nat) (hx : x < 16) (W : World) :
    (Instr.slice 9 (.string ⟨#[48, 49, 50, 51, 52, 53, 54, 55, 56, 57, 65, 66, 67, 68, 69, 70]⟩) (some (.int .u8 (x : Int))) (some (.int .u8 ((x : Int) + 1))) none).run Tryz.prog W = .ok (.string ⟨#[hexU x]⟩) W := by
  rw [run_slice_string W 9 _ .u8 .u8 (x : Int) ((x : Int) + 1) Tryz.underlying9 (by omega) (by omega) (by show _ ≤ ((16 : Nat) : Int); omega)]
  have e1 : ((x : Int)).toNat = x := by omega
  have e2 : ((x : Int) + 1).toNat = x + 1 := by omega
  rw [e1, e2]
  have := dig_cut ⟨x, hx⟩
  simp only at this
  show Result.ok (Value.string ((ByteArray.mk ([48, 49, 50, 51, 52, 53, 54, 55, 56, 57, 65, 66, 67, 68, 69, 70] : List UInt8).toArray).extract x (x + 1))) W = _
  rw [ByteArray.extract_mk, this]
set_option maxRecDepth 100000 in
set_option maxHeartbeats 1000000 in
theorem esc_c (set : Int) (l : List UInt8) (b off cap : Nat) (w : World) (h0 : 0 ≤ set) (h6 : set ≤ 6) (hlen : l.length ≤ 1073741824) (hl : l.length ≤ cap) (hcap : cap ≤ 9223372036854775807) (hby : BytesAt w b off l) (hbw : b < w.heap.size) :
    Calls Tryz.prog 115 #[.int .i64 set, .slice (some ⟨b, off, none⟩) l.length cap] w fun e w' => e = .returned (.string ⟨(escL set l).toArray⟩) ∧ Below w.heap.size w w' := by
  have HBY := Lib.hid hby
  clear hby
  go_enter Tryz.func115, Tryz.ntmps115
  go_wp2
  go_loopw [10] (fun i wr => ∃ k : Nat, k ≤ l.length ∧ i = .int .i64 k ∧ Lib.IsBuilder 191 5 w.heap.size w.heap.size (Lib.byteCells (escL set (l.take k))) wr ∧ Below w.heap.size w wr) (fun i _ => l.length - (intOf i).toNat)
  case atStart => exact ⟨0, Nat.zero_le _, rfl, .inl ⟨Nat.le_refl _, .slice none 0 0, heap_last _ _, ⟨rfl, .inl ⟨rfl, rfl⟩⟩, by simp [Value.ownBlock]⟩, (Below.refl _ _).alloc (Nat.le_refl _) _⟩
  case round =>
    obtain ⟨k, hk, rfl, hB, hb⟩ := hrel
    by_cases hlt : k < l.length
    · have hlt' : (k : Int) < (l.length : Int) := by omega
      have hcell := (HBY.out.below hb hbw) k hlt
      have hle := escL_length set (l.take k)
      have hbl : (Lib.byteCells (escL set (l.take k))).length + 3 ≤ 140737488355328 := by
        rw [Lib.byteCells_length]
        rw [List.length_take] at hle
        omega
      clear hle
      have hsn : l.take (k + 1) = l.take k ++ [l.getD k 0] := by
        rw [List.take_succ_eq_append_getElem hlt, List.getD_eq_getElem?_getD, List.getElem?_eq_getElem hlt]; rfl
      generalize l.getD k 0 = c at *
      have hc := c.toNat_lt
      have hin := fun W => in_c set c W h0 h6
      have hst := escL_snoc set (l.take k) c
      rw [← hsn] at hst
      have HST := Lib.hid hst
      clear hst hsn
      cases hi : inB set c with
      | true =>
        rw [hi] at hin
        have HI := Lib.hid hi
        clear hi
        obtain ⟨x, ex, hx, gx⟩ : ∃ x : Nat, (c.toNat : Int) / 16 = (x : Int) ∧ x < 16 ∧ c.toNat / 16 = x := ⟨c.toNat / 16, by omega, by omega, rfl⟩
        obtain ⟨y, ey, hy, gy⟩ : ∃ y : Nat, Go.bits .and .u8 (c.toNat : Int) 15 = (y : Int) ∧ y < 16 ∧ c.toNat % 16 = y := ⟨c.toNat % 16, and15 c, by omega, rfl⟩
        have hp : Lib.byteCells (pct c) = Lib.strCells (⟨#[37]⟩ ++ ⟨#[hexU x]⟩ ++ ⟨#[hexU y]⟩) := by
          unfold pct
          rw [gx, gy]
          rfl
        have HP := Lib.hid hp
        clear gx gy hp
        have ex1 : IntKind.u8.wrap ((x : Int) + 1) = (x : Int) + 1 := wrap_u8 _ (by omega) (by omega)
        have ey1 : IntKind.u8.wrap ((y : Int) + 1) = (y : Int) + 1 := wrap_u8 _ (by omega) (by omega)
        have rx := dig_run x hx
        have ry := dig_run y hy
        go_wp2_with (go_at_call 175; refine (hin _).mono ?_; rintro e w1 ⟨rfl, rfl⟩)
        go_still_tail 14, (by kernel_rfl)
        have hBd : Lib.IsBuilder 191 5 w.heap.size w.heap.size (Lib.byteCells (escL set (l.take k))) wr.drew := hB
        have hbd := hb.drew
        change wpList _ _ _ _ _ wr.drew
        generalize wr.drew = W2 at *
        go_wp2_with fail
        refine (wstring_c _ _ _ _ _ hBd (by exact hbl) hbd.size).mono ?_
        rintro e w2 ⟨rfl, hB2, hb2⟩
        go_wp2
        go_roundw
        case rel =>
          refine ⟨k + 1, by omega, by go_num, .inr ?_, hbd.trans hb2⟩
          rw [HST.out, HI.out, byteCells_append, if_pos rfl, HP.out]
          exact hB2
        case measure => simp [intOf]; omega
      | false =>
        rw [hi] at hin
        have HI := Lib.hid hi
        clear hi
        go_wp2_with (go_at_call 175; refine (hin _).mono ?_; rintro e w1 ⟨rfl, rfl⟩)
        refine (wbyte_c _ _ _ _ _ hB (by omega) hb.size).mono ?_
        rintro e w2 ⟨rfl, hB2, hb2⟩
        go_wp2
        go_roundw
        case rel =>
          refine ⟨k + 1, by omega, by go_num, .inr ?_, hb.trans hb2⟩
          rw [HST.out, HI.out, byteCells_append]
          exact hB2
        case measure => simp [intOf]; omega
    · obtain rfl : k = l.length := by omega
      rw [List.take_length] at hB
      go_wp2_with (go_at_call 126; refine (Tryz.Builder_String_any _ _ _ _ hB hb.size).mono ?_; rintro e w2 ⟨rfl, hb2⟩)
      go_ret
      exact ⟨rfl, hb.trans hb2⟩

theorem escL_size (set : Int) (s : ByteArray) : (escL set s.data.toList).length ≤ 3 * s.size := by
  have h := escL_length set s.data.toList
  have sz : s.size = s.data.toList.length := by rw [Array.length_toList]; rfl
  rw [← sz] at h
  exact h
/-- escape.Encode of a string's bytes. -/
theorem esc_at (set : Int) (s : ByteArray) (w : World) (n m : Nat) (hn : w.heap.size = n) (hm : s.size = m) (h0 : 0 ≤ set) (h6 : set ≤ 6) (hs : s.size ≤ 1073741824) :
    Calls Tryz.prog 115 #[.int .i64 set, .slice (some ⟨n, 0, none⟩) m (grownCap w m 0 5)] (Lib.bytesWorld w 5 s) fun e w' => e = .returned (.string ⟨(escL set s.data.toList).toArray⟩) ∧ Below w.heap.size w w' := by
  subst hn
  subst hm
  have sz : s.size = s.data.toList.length := by rw [Array.length_toList]; rfl
  have hby : BytesAt (Lib.bytesWorld w 5 s) w.heap.size 0 s.data.toList := fun j hj => by
    rw [Nat.zero_add, Lib.bytesWorld_cell w _ s j (by omega)]
  have hcap1 := grownCap_ge w s.size 0 5
  have hcap2 := grownCap_le_maxLen w s.size 0 5 (by unfold maxLen; omega)
  have hsz := Lib.bytesWorld_size w 5 s
  have hb := below_bytesWorld w 5 s
  rw [sz] at hcap1 hcap2
  have h := esc_c set s.data.toList w.heap.size 0 _ _ h0 h6 (by omega) hcap1 (by unfold maxLen at hcap2; omega) hby (by omega)
  rw [← sz] at h
  exact h.mono fun e w' ⟨he, hb'⟩ => ⟨he, hb.trans (hb'.mono hb.size)⟩
theorem esc_conv (s : ByteArray) (w : World) : (convert 9 29 (.string s)).run Tryz.prog w = .ok (.slice (some ⟨w.heap.size, 0, none⟩) s.size (grownCap w s.size 0 5)) (Lib.bytesWorld w 5 s) :=
  Lib.run_convert_string_bytes (P := Tryz.prog) w 9 29 5 s Tryz.underlying9 Tryz.underlying29 Tryz.underlying5
end Go.Proofs.YtibgiohijknmbaaGreatDoor

/-
  url.ports, Special, Default: what each call answers.
-/
namespace Go.Proofs.YtibgiohijknmbaaGreatDoor
open Go.RowKit Go.WideMaps Go.Maps
set_option linter.unusedVariables false
set_option linter.unusedSimpArgs false

theorem smap_law : Keyed Tryz.prog 9 := string_keyed Tryz.underlying9
def lint (n : Int) : DataW Unit := .lit (.int .i64 n)
def portsD : DataW Unit := ((((((DataW.map []).put (.string [102, 116, 112]) (lint 21)).put (.string [102, 105, 108, 101]) (lint (-1))).put (.string [104, 116, 116, 112]) (lint 80)).put (.string [104, 116, 116, 112, 115]) (lint 443)).put (.string [119, 115]) (lint 80)).put (.string [119, 115, 115]) (lint 443)

theorem ins_lit (w : World) (ks : Array UInt8) (z : Int) (b n : Nat) (D : DataW Unit)
    (hown : w.ownsMap Tryz.prog 9 (plainElem (H := Unit) Tryz.prog 3) b n D) (hn : n < maxLen) (hk : ks.size ≤ maxLen) (hz : (Lit.int .i64 z).wf = true) :
    ∃ w', (Instr.mapUpdate 240 (.map (some b)) (.string ⟨ks⟩) (.int .i64 z)).run Tryz.prog w = .ok () w' ∧ w'.ownsMap Tryz.prog 9 (plainElem (H := Unit) Tryz.prog 3) b (n + 1) (D.put (.string ks.toList) (lint z)) ∧ w.grownBy w' (some b) :=
  hown.update smap_law Tryz.underlying240 hn (keyOf_string_mk Tryz.underlying9 hk) (plainElem_int Tryz.underlying3 hz)

set_option maxRecDepth 100000 in
set_option maxHeartbeats 400000 in
theorem ports_c (w : World) :
    Calls Tryz.prog 168 #[] w fun e w' => ∃ b, e = .returned (.map (some b)) ∧ w'.ownsMap Tryz.prog 9 (plainElem (H := Unit) Tryz.prog 3) b 6 portsD ∧ Below w.heap.size w w' := by
  have hmm := @run_makeMap Tryz.prog
  have h0 := World.ownsMap_made w Tryz.prog 9 (plainElem (H := Unit) Tryz.prog 3)
  have b0 : Below w.heap.size w (w.alloc (.map #[] 0)) := (Below.refl _ _).alloc (Nat.le_refl _) _
  obtain ⟨w1, r1, h1, g1⟩ := ins_lit _ #[102, 116, 112] 21 w.heap.size 0 _ h0 (by unfold maxLen; omega) (by simp [maxLen]) (by decide)
  obtain ⟨w2, r2, h2, g2⟩ := ins_lit _ #[102, 105, 108, 101] (-1) w.heap.size 1 _ h1 (by unfold maxLen; omega) (by simp [maxLen]) (by decide)
  obtain ⟨w3, r3, h3, g3⟩ := ins_lit _ #[104, 116, 116, 112] 80 w.heap.size 2 _ h2 (by unfold maxLen; omega) (by simp [maxLen]) (by decide)
  obtain ⟨w4, r4, h4, g4⟩ := ins_lit _ #[104, 116, 116, 112, 115] 443 w.heap.size 3 _ h3 (by unfold maxLen; omega) (by simp [maxLen]) (by decide)
  obtain ⟨w5, r5, h5, g5⟩ := ins_lit _ #[119, 115] 80 w.heap.size 4 _ h4 (by unfold maxLen; omega) (by simp [maxLen]) (by decide)
  obtain ⟨w6, r6, h6, g6⟩ := ins_lit _ #[119, 115, 115] 443 w.heap.size 5 _ h5 (by unfold maxLen; omega) (by simp [maxLen]) (by decide)
  have e : ∀ k, some w.heap.size = some k → w.heap.size ≤ k := fun k hk => by injection hk with hk; omega
  have b1 := b0.grown g1 b0.size e
  have b2 := b1.grown g2 b1.size e
  have b3 := b2.grown g3 b2.size e
  have b4 := b3.grown g4 b3.size e
  have b5 := b4.grown g5 b4.size e
  have b6 := b5.grown g6 b5.size e
  have H6 : w6.ownsMap Tryz.prog 9 (plainElem (H := Unit) Tryz.prog 3) w.heap.size 6 portsD := h6
  clear h0 h1 h2 h3 h4 h5 h6 g1 g2 g3 g4 g5 g6 b0 b1 b2 b3 b4 b5 e
  go_enter Tryz.func168, Tryz.ntmps168
  go_wp2
  go_ret
  exact ⟨_, rfl, H6, b6⟩

/-- The special schemes. -/
def specials : List (List UInt8) := [[102, 116, 112], [102, 105, 108, 101], [104, 116, 116, 112], [104, 116, 116, 112, 115], [119, 115], [119, 115, 115]]
def specialB (s : List UInt8) : Bool := specials.any (· == s)
/-- A scheme's own port. -/
def portI (s : List UInt8) : Int := if s = [102, 116, 112] then 21 else if s = [104, 116, 116, 112] ∨ s = [119, 115] then 80 else if s = [104, 116, 116, 112, 115] ∨ s = [119, 115, 115] then 443 else -1

theorem ports_has (s : List UInt8) : Maps.has portsD (.string s) = specialB s := by
  have e : portsD = .map [(.string [102, 105, 108, 101], lint (-1)), (.string [102, 116, 112], lint 21), (.string [104, 116, 116, 112], lint 80), (.string [104, 116, 116, 112, 115], lint 443), (.string [119, 115], lint 80), (.string [119, 115, 115], lint 443)] := by rfl
  rw [e, Maps.has_eq]
  simp only [List.any_cons, List.any_nil, Bool.or_false, Lit.sameKey, specialB, specials]
  rw [Bool.eq_iff_iff]
  simp
  constructor <;> (intro h; rcases h with h | h | h | h | h | h <;> subst h <;> simp)
theorem special_true {s : List UInt8} : specialB s = true ↔ s ∈ specials := by simp [specialB, specials]; constructor <;> (intro h; rcases h with h | h | h | h | h | h <;> subst h <;> simp)

theorem ports_at (s : List UInt8) : DataW.atKey portsD (.string s) (lint 0) = if specialB s = true then lint (portI s) else lint 0 := by
  have e : portsD = .map [(.string [102, 105, 108, 101], lint (-1)), (.string [102, 116, 112], lint 21), (.string [104, 116, 116, 112], lint 80), (.string [104, 116, 116, 112, 115], lint 443), (.string [119, 115], lint 80), (.string [119, 115, 115], lint 443)] := by rfl
  rw [e]
  by_cases h : specialB s = true
  · rw [if_pos h]
    have := special_true.1 h
    simp only [specials, List.mem_cons, List.not_mem_nil, or_false] at this
    rcases this with rfl | rfl | rfl | rfl | rfl | rfl <;> rfl
  · rw [if_neg h]
    have hn : ∀ x ∈ specials, x ≠ s := fun x hx e => h (special_true.2 (e ▸ hx))
    simp only [DataW.atKey]
    rw [List.find?_eq_none.2]
    have h1 := hn [102, 116, 112] (by simp [specials])
    have h2 := hn [102, 105, 108, 101] (by simp [specials])
    have h3 := hn [104, 116, 116, 112] (by simp [specials])
    have h4 := hn [104, 116, 116, 112, 115] (by simp [specials])
    have h5 := hn [119, 115] (by simp [specials])
    have h6 := hn [119, 115, 115] (by simp [specials])
    intro p hp
    simp only [List.mem_cons, List.not_mem_nil, or_false] at hp
    rcases hp with rfl | rfl | rfl | rfl | rfl | rfl <;> (simp only [Lit.sameKey]; simpa using (by assumption))

theorem zero_int (w : World) : (zeroValue 3).run Tryz.prog w = .ok (.int .i64 0) w := by kernel_rfl
theorem ports_look {w : World} {b n : Nat} (hown : w.ownsMap Tryz.prog 9 (plainElem (H := Unit) Tryz.prog 3) b n portsD) (s : ByteArray) (hs : s.size ≤ maxLen) :
    ∃ z : Int, (Instr.lookup 240 (.map (some b)) (.string s) true).run Tryz.prog w = .ok (.tuple #[.int .i64 z, .bool (specialB s.data.toList)]) w ∧ (specialB s.data.toList = true → z = portI s.data.toList) := by
  obtain ⟨v, ps, hrun, hv⟩ := hown.look_ok smap_law Tryz.underlying240 (zero_int w) (plainElem_int Tryz.underlying3 (by decide)) (keyOf_string_mk Tryz.underlying9 hs)
  obtain ⟨c, rfl, hc, hwc⟩ := plainElem_int_inv Tryz.underlying3 hv
  rw [ports_has] at hrun
  refine ⟨c, hrun, fun h => ?_⟩
  have h1 := congrArg Prod.fst hc
  have h2 := ports_at s.data.toList
  rw [if_pos h] at h2
  have h3 : (lint c : DataW Unit) = lint (portI s.data.toList) := by
    show DataW.lit (.int .i64 c) = _
    rw [← h2]
    exact h1.symm
  simpa [lint] using h3

set_option maxHeartbeats 400000 in
theorem special_c (s : ByteArray) (w : World) (hs : s.size ≤ maxLen) :
    Calls Tryz.prog 107 #[.string s] w fun e w' => e = .returned (.bool (specialB s.data.toList)) ∧ Below w.heap.size w w' := by
  go_enter Tryz.func107, Tryz.ntmps107
  go_wp2_with fail
  refine (ports_c _).mono ?_
  rintro e w1 ⟨b, rfl, hown, hb⟩
  obtain ⟨z, hl, hz⟩ := ports_look hown s hs
  clear hz hown
  go_wp2
  go_ret
  exact ⟨rfl, hb⟩

def defaultI (s : List UInt8) : Int := if specialB s = true then portI s else -1
set_option maxHeartbeats 400000 in
theorem default_c (s : ByteArray) (w : World) (hs : s.size ≤ maxLen) :
    Calls Tryz.prog 287 #[.string s] w fun e w' => e = .returned (.int .i64 (defaultI s.data.toList)) ∧ Below w.heap.size w w' := by
  have hd : defaultI s.data.toList = if specialB s.data.toList = true then portI s.data.toList else -1 := rfl
  generalize defaultI s.data.toList = d at *
  have HD := Lib.hid hd
  clear hd
  go_enter Tryz.func287, Tryz.ntmps287
  go_wp2_with fail
  refine (ports_c _).mono ?_
  rintro e w1 ⟨b, rfl, hown, hb⟩
  obtain ⟨z, hl, hz⟩ := ports_look hown s hs
  clear hown
  cases hsp : specialB s.data.toList with
  | true =>
    rw [hsp] at hl
    have hz' := hz hsp
    have h := HD.out
    rw [if_pos hsp, ← hz'] at h
    subst h
    clear hz hsp hz' HD
    go_wp2
    go_ret
    exact ⟨rfl, hb⟩
  | false =>
    rw [hsp] at hl
    have h := HD.out
    rw [if_neg (by rw [hsp]; decide)] at h
    subst h
    clear hz hsp HD
    go_wp2
    go_ret
    exact ⟨rfl, hb⟩
end Go.Proofs.YtibgiohijknmbaaGreatDoor
