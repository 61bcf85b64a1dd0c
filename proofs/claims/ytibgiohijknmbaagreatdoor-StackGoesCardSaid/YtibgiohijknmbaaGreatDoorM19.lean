/-
  Joined texts: Org, Sto, Sto2, Ident, Ident2.
-/
import Derived.Test.YtibgiohijknmbaaGreatDoorM14
import Derived.Test.YtibgiohijknmbaaGreatDoorM9
import Derived.Test.YtibgiohijknmbaaGreatDoorM11
import Derived.Test.YtibgiohijknmbaaGreatDoorM2
import Derived.Test.YtibgiohijknmbaaGreatDoorM7
import Derived.Deep.RegionLaw
import Derived.Deep.AppendLies
/-
  Opaque origins: origin.Tuple, Print, Same.
-/
namespace Go.Proofs.YtibgiohijknmbaaGreatDoor
open Go.RowKit
set_option linter.unusedVariables false
set_option linter.unusedSimpArgs false

theorem bx {W W' : World} {k : Nat} {o : Obj} (h : W.heap[k]? = some o) (hb : Below W.heap.size W W') : W'.heap[k]? = some o := (hb.block k (Array.getElem?_eq_some_iff.1 h).1).trans h
def nullS : ByteArray := ⟨#[110, 117, 108, 108]⟩
theorem tuple_no (oh : ByteArray) (op on : Int) (w : World) :
    Calls Tryz.prog 118 #[.agg (oriV ⟨#[]⟩ oh op on)] w fun e w' => e = .returned (.bool false) ∧ Below w.heap.size w w' := by
  unfold oriV
  go_enter Tryz.func118, Tryz.ntmps118
  go_wp2
  go_ret
  exact ⟨ret_b (by simp), (Below.refl _ _).alloc (Nat.le_refl _) _⟩
set_option maxRecDepth 100000 in
set_option maxHeartbeats 1000000 in
theorem oprint_no (oh : ByteArray) (op on : Int) (w : World) :
    Calls Tryz.prog 66 #[.agg (oriV ⟨#[]⟩ oh op on)] w fun e w' => e = .returned (.string nullS) ∧ Below w.heap.size w w' := by
  have hr : (w.alloc (.cells (oriV ⟨#[]⟩ oh op on) 23)).heap[w.heap.size]? = some (.cells (oriV ⟨#[]⟩ oh op on) 23 (0, 0)) := heap_last _ _
  have hb0 : Below w.heap.size w (w.alloc (.cells (oriV ⟨#[]⟩ oh op on) 23)) := (Below.refl _ _).alloc (Nat.le_refl _) _
  obtain ⟨W0, hW0⟩ : ∃ W, W = w.alloc (.cells (oriV ⟨#[]⟩ oh op on) 23) := ⟨_, rfl⟩
  rw [← hW0] at hr hb0
  have HW : Hid (w.alloc (.cells #[.string ⟨#[]⟩, .string oh, .int .i64 op, .int .i64 on] 23) = W0) := Lib.hid hW0.symm
  have c0 : W0.cell? ⟨w.heap.size, 0, none⟩ = some (.string ⟨#[]⟩) := Lib.cell_of_heap hr 0
  have c1 : W0.cell? ⟨w.heap.size, 1, none⟩ = some (.string oh) := Lib.cell_of_heap hr 1
  have c2 : W0.cell? ⟨w.heap.size, 2, none⟩ = some (.int .i64 op) := Lib.cell_of_heap hr 2
  have c3 : W0.cell? ⟨w.heap.size, 3, none⟩ = some (.int .i64 on) := Lib.cell_of_heap hr 3
  clear hW0 hr
  unfold oriV
  go_enter Tryz.func66, Tryz.ntmps66
  go_wp2_with (rw [HW.out])
  refine (tuple_no oh op on W0).mono ?_
  rintro e w1 ⟨rfl, hb1⟩
  go_wp2_with fail
  go_ret
  exact ⟨rfl, hb0.trans (hb1.mono hb0.size)⟩
set_option maxRecDepth 100000 in
set_option maxHeartbeats 1000000 in
theorem same_no (oh oh' : ByteArray) (op on op' on' : Int) (w : World) :
    Calls Tryz.prog 120 #[.agg (oriV ⟨#[]⟩ oh op on), .agg (oriV ⟨#[]⟩ oh' op' on')] w fun e w' => e = .returned (.bool (on == on')) ∧ Below w.heap.size w w' := by
  have hs1 : (w.alloc (.cells (oriV ⟨#[]⟩ oh op on) 23)).heap.size = w.heap.size + 1 := by simp
  have hr : ((w.alloc (.cells (oriV ⟨#[]⟩ oh op on) 23)).alloc (.cells (oriV ⟨#[]⟩ oh' op' on') 23)).heap[w.heap.size]? = some (.cells (oriV ⟨#[]⟩ oh op on) 23 (0, 0)) := by
    rw [Below.heap_alloc _ _ _ (by simp)]
    exact heap_last _ _
  have hr' : ((w.alloc (.cells (oriV ⟨#[]⟩ oh op on) 23)).alloc (.cells (oriV ⟨#[]⟩ oh' op' on') 23)).heap[w.heap.size + 1]? = some (.cells (oriV ⟨#[]⟩ oh' op' on') 23 (0, 0)) := by
    have := heap_last (w.alloc (.cells (oriV ⟨#[]⟩ oh op on) 23)) (.cells (oriV ⟨#[]⟩ oh' op' on') 23)
    rw [hs1] at this
    exact this
  have hb0 : Below w.heap.size w ((w.alloc (.cells (oriV ⟨#[]⟩ oh op on) 23)).alloc (.cells (oriV ⟨#[]⟩ oh' op' on') 23)) := ((Below.refl _ _).alloc (Nat.le_refl _) _).alloc (by rw [hs1]; omega) _
  obtain ⟨W0, hW0⟩ : ∃ W, W = (w.alloc (.cells (oriV ⟨#[]⟩ oh op on) 23)).alloc (.cells (oriV ⟨#[]⟩ oh' op' on') 23) := ⟨_, rfl⟩
  rw [← hW0] at hr hb0 hr'
  have HW : Hid ((w.alloc (.cells #[.string ⟨#[]⟩, .string oh, .int .i64 op, .int .i64 on] 23)).alloc (.cells #[.string ⟨#[]⟩, .string oh', .int .i64 op', .int .i64 on'] 23) = W0) := Lib.hid hW0.symm
  clear hW0 hs1
  have cs : ∀ W : World, W.heap[w.heap.size]? = some (.cells (oriV ⟨#[]⟩ oh op on) 23 (0, 0)) → (W.cell? ⟨w.heap.size, 0, none⟩ = some (.string ⟨#[]⟩) ∧ W.cell? ⟨w.heap.size, 1, none⟩ = some (.string oh) ∧ W.cell? ⟨w.heap.size, 2, none⟩ = some (.int .i64 op) ∧ W.cell? ⟨w.heap.size, 3, none⟩ = some (.int .i64 on)) :=
    fun W h => ⟨Lib.cell_of_heap h 0, Lib.cell_of_heap h 1, Lib.cell_of_heap h 2, Lib.cell_of_heap h 3⟩
  have cs' : ∀ W : World, W.heap[w.heap.size + 1]? = some (.cells (oriV ⟨#[]⟩ oh' op' on') 23 (0, 0)) → (W.cell? ⟨w.heap.size + 1, 0, none⟩ = some (.string ⟨#[]⟩) ∧ W.cell? ⟨w.heap.size + 1, 1, none⟩ = some (.string oh') ∧ W.cell? ⟨w.heap.size + 1, 2, none⟩ = some (.int .i64 op') ∧ W.cell? ⟨w.heap.size + 1, 3, none⟩ = some (.int .i64 on')) :=
    fun W h => ⟨Lib.cell_of_heap h 0, Lib.cell_of_heap h 1, Lib.cell_of_heap h 2, Lib.cell_of_heap h 3⟩
  have HC := Lib.hid cs
  have HC' := Lib.hid cs'
  have HR := Lib.hid hr
  have HR' := Lib.hid hr'
  obtain ⟨c0, c1, c2, c3⟩ := cs W0 hr
  obtain ⟨d0, d1, d2, d3⟩ := cs' W0 hr'
  clear cs cs' hr hr'
  unfold oriV
  go_enter Tryz.func120, Tryz.ntmps120
  go_wp2_with (rw [HW.out])
  refine (tuple_no oh op on W0).mono ?_
  rintro e w1 ⟨rfl, hb1⟩
  have HR1 := Lib.hid (bx HR.out hb1)
  have HR1' := Lib.hid (bx HR'.out hb1)
  have hB1 := hb0.trans (hb1.mono hb0.size)
  clear c0 c1 c2 c3 d0 d1 d2 d3 hb1
  obtain ⟨c0, c1, c2, c3⟩ := HC.out w1 HR1.out
  obtain ⟨d0, d1, d2, d3⟩ := HC'.out w1 HR1'.out
  go_wp2_with fail
  refine (tuple_no oh op on w1).mono ?_
  rintro e w2 ⟨rfl, hb2⟩
  have HR2 := Lib.hid (bx HR1.out hb2)
  have HR2' := Lib.hid (bx HR1'.out hb2)
  have hB2 := hB1.trans (hb2.mono hB1.size)
  clear c0 c1 c2 c3 d0 d1 d2 d3 hb2
  obtain ⟨c0, c1, c2, c3⟩ := HC.out w2 HR2.out
  obtain ⟨d0, d1, d2, d3⟩ := HC'.out w2 HR2'.out
  go_wp2_with fail
  refine (tuple_no oh' op' on' w2).mono ?_
  rintro e w3 ⟨rfl, hb3⟩
  have HR3 := Lib.hid (bx HR2.out hb3)
  have HR3' := Lib.hid (bx HR2'.out hb3)
  have hB3 := hB2.trans (hb3.mono hB2.size)
  clear c0 c1 c2 c3 d0 d1 d2 d3 hb3
  obtain ⟨c0, c1, c2, c3⟩ := HC.out w3 HR3.out
  obtain ⟨d0, d1, d2, d3⟩ := HC'.out w3 HR3'.out
  go_wp2_with fail
  go_ret
  exact ⟨rfl, hB3⟩
end Go.Proofs.YtibgiohijknmbaaGreatDoor

/-
  store: entries in memory, slices.IndexFunc, find.
-/
namespace Go.Proofs.YtibgiohijknmbaaGreatDoor
open Go.RowKit
set_option linter.unusedVariables false
set_option linter.unusedSimpArgs false

/-- A store's entry: a URL, who registered it, and the block of what it has. -/
structure SEnt where
  url : ByteArray
  sch : ByteArray
  host : ByteArray
  port : Int
  nonce : Int
  blk : Nat
instance : Inhabited SEnt := ⟨⟨ByteArray.empty, ByteArray.empty, ByteArray.empty, 0, 0, 0⟩⟩
def SEnt.vals (e : SEnt) : List Value := [.string e.url, .string e.sch, .string e.host, .int .i64 e.port, .int .i64 e.nonce, .pointer (some ⟨e.blk, 0, none⟩)]
def sentV (l : List SEnt) : List Value := l.flatMap SEnt.vals
theorem sentV_length (es : List SEnt) : (sentV es).length = es.length * 6 := by
  induction es with
  | nil => rfl
  | cons a t ih =>
    have : sentV (a :: t) = a.vals ++ sentV t := rfl
    rw [this, List.length_append, ih, List.length_cons]
    simp [SEnt.vals]
    omega
theorem sentV_get (es : List SEnt) (d : SEnt) : ∀ j, j < es.length → ∀ i, i < 6 → (sentV es)[j * 6 + i]? = (es.getD j d).vals[i]? := by
  induction es with
  | nil => intro j hj; exact absurd hj (Nat.not_lt_zero _)
  | cons a t ih =>
    intro j hj i hi
    have e : sentV (a :: t) = a.vals ++ sentV t := rfl
    have hl : a.vals.length = 6 := rfl
    rw [e]
    cases j with
    | zero =>
      rw [Nat.zero_mul, Nat.zero_add, List.getElem?_append_left (by omega)]
      rfl
    | succ j =>
      have h := ih j (by simpa using hj) i hi
      rw [List.getElem?_append_right (by omega), List.getD_cons_succ, ← h, hl]
      congr 1
      omega
def RowS (w : World) (B : Nat) (lv : Value) (es : List SEnt) : Prop := w.ownsRow B 137 6 lv es.length (sentV es)
def firstS (p : SEnt → Bool) (es : List SEnt) : Int := if es.findIdx p < es.length then (es.findIdx p : Int) else -1
def bEq (a b : ByteArray) : Bool := decide (a = b)
theorem str_ne2 {a b : ByteArray} (h : ¬ a = b) : ¬ a = b ∧ ¬ a.toList = b.toList ∧ (a.toList == b.toList) = false := by
  have h2 : ¬ a.toList = b.toList := by
    rw [ByteArray.toList_eq, ByteArray.toList_eq]
    intro e
    apply h
    apply ByteArray.ext
    exact Array.toList_inj.1 e
  exact ⟨h, h2, by simpa using h2⟩

set_option maxRecDepth 100000 in
set_option maxHeartbeats 1000000 in
theorem sidx_c (B : Nat) (lv : Value) (es : List SEnt) (hb : Nat) (h : ByteArray) (w : World) (ho : RowS w B lv es) (hh : w.cell? ⟨hb, 0, none⟩ = some (.string h)) (hlt : hb < w.heap.size) (hn : es.length ≤ 1000000) :
    Calls Tryz.prog 123 #[lv, .func (.func 124) #[] #[.pointer (some ⟨hb, 0, none⟩)]] w fun e w' => e = .returned (.int .i64 (firstS (fun e => bEq e.url h) es)) ∧ Below w.heap.size w w' := by
  rcases ho.2 with ⟨hv, h0⟩ | ⟨g, cap, cur, hv, hg, hhp, hnc, hm, hs, ht⟩
  · subst hv
    have : es = [] := List.length_eq_zero_iff.1 h0
    subst this
    go_enter Tryz.func123, Tryz.ntmps123
    go_wp2
    refine wp_loop_rounds 1 ?_
    rw [rounds_succ]
    go_wp2
    go_ret
    exact ⟨rfl, Below.refl _ _⟩
  · subst hv
    have hgl : g < w.heap.size := (Array.getElem?_eq_some_iff.1 hhp).1
    have hcell : ∀ j, j < es.length → ∀ i, i < 6 → w.cell? ⟨g, j * 6 + i, none⟩ = (es.getD j default).vals[i]? := fun j hj i hi => by
      have e1 := sentV_get es default j hj i hi
      obtain ⟨v, hv⟩ : ∃ v, (es.getD j default).vals[i]? = some v := ⟨_, List.getElem?_eq_getElem (show i < 6 from hi)⟩
      rw [hv] at e1 ⊢
      have c1 := ho.cells (g := g) rfl _ _ e1
      rw [addr_add0] at c1
      exact c1
    have HCE := Lib.hid hcell
    clear hcell ho hs ht hhp
    go_enter Tryz.func123, Tryz.ntmps123
    go_wp2
    go_loopw [8] (fun i wr => ∃ k : Nat, k ≤ es.length ∧ i = .int .i64 k ∧ Below w.heap.size w wr ∧ Hid (∀ j, j < k → (bEq (es.getD j default).url h) = false)) (fun i _ => es.length - (intOf i).toNat)
    case atStart => exact ⟨0, Nat.zero_le _, rfl, Below.refl _ _, fun j hj => absurd hj (Nat.not_lt_zero _)⟩
    case round =>
      obtain ⟨k, hk, rfl, hbl, hall⟩ := hrel
      by_cases hlk : k < es.length
      · have hq := HCE.out k hlk
        obtain ⟨x, hx⟩ : ∃ x, x = es.getD k default := ⟨_, rfl⟩
        rw [← hx] at hq
        have d0 : wr.cell? ⟨g, k * 6, none⟩ = some (.string x.url) := (hbl.cell (p := ⟨g, k * 6, none⟩) hgl).trans (hq 0 (by decide))
        have d1 : wr.cell? ⟨g, k * 6 + 1, none⟩ = some (.string x.sch) := (hbl.cell (p := ⟨g, k * 6 + 1, none⟩) hgl).trans (hq 1 (by decide))
        have d2 : wr.cell? ⟨g, k * 6 + 2, none⟩ = some (.string x.host) := (hbl.cell (p := ⟨g, k * 6 + 2, none⟩) hgl).trans (hq 2 (by decide))
        have d3 : wr.cell? ⟨g, k * 6 + 3, none⟩ = some (.int .i64 x.port) := (hbl.cell (p := ⟨g, k * 6 + 3, none⟩) hgl).trans (hq 3 (by decide))
        have d4 : wr.cell? ⟨g, k * 6 + 4, none⟩ = some (.int .i64 x.nonce) := (hbl.cell (p := ⟨g, k * 6 + 4, none⟩) hgl).trans (hq 4 (by decide))
        have d5 : wr.cell? ⟨g, k * 6 + 5, none⟩ = some (.pointer (some ⟨x.blk, 0, none⟩)) := (hbl.cell (p := ⟨g, k * 6 + 5, none⟩) hgl).trans (hq 5 (by decide))
        have dh : wr.cell? ⟨hb, 0, none⟩ = some (.string h) := (hbl.cell (p := ⟨hb, 0, none⟩) hlt).trans hh
        have hl2 : hb < wr.heap.size := Nat.lt_of_lt_of_le hlt hbl.size
        have hl3 : g < wr.heap.size := Nat.lt_of_lt_of_le hgl hbl.size
        have hal : Below w.heap.size w (wr.alloc (.cells #[.string x.url, .string x.sch, .string x.host, .int .i64 x.port, .int .i64 x.nonce, .pointer (some ⟨x.blk, 0, none⟩)] 137)) := hbl.alloc hbl.size _
        have HX := Lib.hid hx
        clear hq hx
        obtain ⟨xu, xs, xh, xp, xn, xb⟩ := x
        simp only at d0 d1 d2 d3 d4 d5 hal
        by_cases hxh : xu = h
        · subst hxh
          have hfi : es.findIdx (fun e => bEq e.url xu) = k := by
            refine (List.findIdx_eq hlk).2 ⟨?_, fun j hj => ?_⟩
            · have := HX.out
              rw [List.getD_eq_getElem?_getD, List.getElem?_eq_getElem hlk, Option.getD_some] at this
              rw [← this]
              simp [bEq]
            · have := hall.out j hj
              rw [List.getD_eq_getElem?_getD, List.getElem?_eq_getElem (by omega), Option.getD_some] at this
              exact this
          have hres : firstS (fun e => bEq e.url xu) es = (k : Int) := by unfold firstS; rw [hfi, if_pos hlk]
          have HRES := Lib.hid hres
          clear hfi hres
          go_wp2
          go_ret
          exact ⟨ret_i HRES.out.symm, hal⟩
        · have hall2 : Hid (∀ j, j < k + 1 → (bEq (es.getD j default).url h) = false) := fun j hj => by
            by_cases e : j = k
            · subst e; rw [← HX.out]; simpa [bEq] using hxh
            · exact hall.out j (by omega)
          obtain ⟨q1, q2, q3⟩ := str_ne2 hxh
          clear hxh
          go_wp2
          exact ⟨⟨k + 1, by omega, by go_num, hal, hall2⟩, by simp [intOf]; omega⟩
      · obtain rfl : k = es.length := by omega
        have hfi : es.findIdx (fun e => bEq e.url h) = es.length := by
          refine List.findIdx_eq_length.2 fun e he => ?_
          obtain ⟨j, hj, rfl⟩ := List.getElem_of_mem he
          have := hall.out j hj
          rw [List.getD_eq_getElem?_getD, List.getElem?_eq_getElem hj, Option.getD_some] at this
          exact this
        have hres : firstS (fun e => bEq e.url h) es = -1 := by unfold firstS; rw [hfi, if_neg (Nat.lt_irrefl _)]
        have HRES := Lib.hid hres
        clear hfi hres
        go_wp2
        go_ret
        exact ⟨ret_i HRES.out.symm, hbl⟩
end Go.Proofs.YtibgiohijknmbaaGreatDoor

/-
  store: find over entries in memory.
-/
namespace Go.Proofs.YtibgiohijknmbaaGreatDoor
open Go.RowKit
set_option linter.unusedVariables false
set_option linter.unusedSimpArgs false

/-- A store in memory. -/
def StoreAt (w : World) (B sb : Nat) (ss : List SEnt) (room : Int) : Prop :=
  B ≤ sb ∧ ss.length ≤ 64 ∧ ∃ lv, w.heap[sb]? = some (.cells #[lv, .int .i64 room] 135 (0, 0)) ∧ RowS w B lv ss
theorem StoreAt.lt {w : World} {B sb : Nat} {ss : List SEnt} {room : Int} (h : StoreAt w B sb ss room) : sb < w.heap.size := by
  obtain ⟨_, _, v, hv, _⟩ := h
  exact (Array.getElem?_eq_some_iff.1 hv).1
theorem StoreAt.later {w w' : World} {B sb : Nat} {ss : List SEnt} {room : Int} (h : StoreAt w B sb ss room) (hb : Below w.heap.size w w') : StoreAt w' B sb ss room := by
  have hlt := h.lt
  obtain ⟨h1, h2, v, hv, ho⟩ := h
  refine ⟨h1, h2, v, (hb.block _ hlt).trans hv, ?_⟩
  exact ho.kept (w' := w') (row := none) ⟨hb.os, hb.tape, hb.output, hb.size, fun i hi _ => hb.block i hi⟩ (by cases v.ownBlock <;> simp)
theorem firstS_range (p : SEnt → Bool) (es : List SEnt) : -1 ≤ firstS p es ∧ firstS p es < es.length := by
  unfold firstS
  split <;> omega
def getS (ss : List SEnt) (u : ByteArray) : Option SEnt := ss.find? fun e => bEq e.url u
theorem getS_none {es : List SEnt} {h : ByteArray} (hf : firstS (fun e => bEq e.url h) es < 0) : getS es h = none := by
  unfold firstS at hf
  split at hf
  · omega
  · rename_i hn
    unfold getS
    rw [List.find?_eq_none.2]
    intro e he
    have hle := List.findIdx_le_length (p := fun e : SEnt => bEq e.url h) (xs := es)
    have := List.findIdx_eq_length.1 (Nat.le_antisymm hle (Nat.le_of_not_lt hn)) e he
    simpa using this
theorem getS_some {es : List SEnt} {h : ByteArray} (hf : 0 ≤ firstS (fun e => bEq e.url h) es) : ∃ k : Nat, firstS (fun e => bEq e.url h) es = (k : Int) ∧ k < es.length ∧ getS es h = some (es.getD k default) := by
  unfold firstS at *
  split at hf
  · rename_i hlt
    refine ⟨_, by rw [if_pos hlt], hlt, ?_⟩
    unfold getS
    rw [List.find?_eq_getElem?_findIdx, List.getElem?_eq_getElem hlt, List.getD_eq_getElem?_getD, List.getElem?_eq_getElem hlt]
    rfl
  · omega

set_option maxRecDepth 100000 in
theorem sfind_c (B sb : Nat) (ss : List SEnt) (room : Int) (h : ByteArray) (w : World) (hT : StoreAt w B sb ss room) :
    Calls Tryz.prog 68 #[.pointer (some ⟨sb, 0, none⟩), .string h] w fun e w' => e = .returned (.int .i64 (firstS (fun e => bEq e.url h) ss)) ∧ Below w.heap.size w w' := by
  have hlt := hT.lt
  have hb0 : Below w.heap.size w (w.alloc (.cells #[.string h] 9)) := (Below.refl _ _).alloc (Nat.le_refl _) _
  have hT0 := hT.later hb0
  obtain ⟨_, hn, lv, hv, ho⟩ := hT
  obtain ⟨_, _, lv', hv', ho'⟩ := hT0
  have c0 : w.cell? ⟨sb, 0, none⟩ = some lv := Lib.cell_of_heap hv 0
  have hll : lv' = lv := by
    have e := (hb0.block _ hlt).trans hv
    rw [hv'] at e
    have e := Option.some.inj e
    injection e with e
    have := congrArg (fun a : Array Value => a[0]?) e
    simpa using this
  subst hll
  have hi := sidx_c B lv' ss w.heap.size h _ ho' (Lib.cell_of_heap (heap_last w _) 0) (by simp) (by omega)
  clear hv hv' ho ho' hn
  go_enter Tryz.func68, Tryz.ntmps68
  go_wp2_with fail
  refine hi.mono ?_
  rintro e w1 ⟨rfl, hb1⟩
  go_wp2
  go_ret
  exact ⟨rfl, hb0.trans (hb1.mono hb0.size)⟩
end Go.Proofs.YtibgiohijknmbaaGreatDoor

/-
  ident.Of: sixteen bytes as text.
-/
namespace Go.Proofs.YtibgiohijknmbaaGreatDoor
open Go.RowKit
set_option linter.unusedVariables false
set_option linter.unusedSimpArgs false

set_option maxRecDepth 100000 in
theorem dash_c (k : Int) (w : World) :
    Calls Tryz.prog 122 #[.int .i64 k] w fun e w' => e = .returned (.bool (decide (k = 4 ∨ k = 6 ∨ k = 8 ∨ k = 10))) ∧ w' = w := by
  by_cases h4 : k = 4
  · subst h4
    go_enter Tryz.func122, Tryz.ntmps122
    go_wp2
    go_ret
    exact ⟨rfl, rfl⟩
  · by_cases h6 : k = 6
    · subst h6
      go_enter Tryz.func122, Tryz.ntmps122
      go_wp2
      go_ret
      exact ⟨rfl, rfl⟩
    · by_cases h8 : k = 8
      · subst h8
        go_enter Tryz.func122, Tryz.ntmps122
        go_wp2
        go_ret
        exact ⟨rfl, rfl⟩
      · by_cases h10 : k = 10
        · subst h10
          go_enter Tryz.func122, Tryz.ntmps122
          go_wp2
          go_ret
          exact ⟨rfl, rfl⟩
        · have e : decide (k = 4 ∨ k = 6 ∨ k = 8 ∨ k = 10) = false := by simp [h4, h6, h8, h10]
          rw [e]
          have e4 : (k == 4) = false := by simpa using h4
          have e6 : (k == 6) = false := by simpa using h6
          have e8 : (k == 8) = false := by simpa using h8
          have e10 : (k == 10) = false := by simpa using h10
          clear e
          go_enter Tryz.func122, Tryz.ntmps122
          go_wp2
          go_ret
          exact ⟨rfl, rfl⟩

set_option maxRecDepth 100000 in
theorem idx16 (b0 b1 b2 b3 b4 b5 b6 b7 b8 b9 b10 b11 b12 b13 b14 b15 : Int) (k : Nat) (hk : k < 16) : ∃ x ∈ [b0, b1, b2, b3, b4, b5, b6, b7, b8, b9, b10, b11, b12, b13, b14, b15], ∀ W, (Instr.index 33 (.agg #[.int .u8 b0, .int .u8 b1, .int .u8 b2, .int .u8 b3, .int .u8 b4, .int .u8 b5, .int .u8 b6, .int .u8 b7, .int .u8 b8, .int .u8 b9, .int .u8 b10, .int .u8 b11, .int .u8 b12, .int .u8 b13, .int .u8 b14, .int .u8 b15]) (.int .i64 k)).run Tryz.prog W = .ok (.int .u8 x) W := by
  match k, hk with
  | 0, _ => exact ⟨b0, by simp, fun W => by kernel_rfl⟩
  | 1, _ => exact ⟨b1, by simp, fun W => by kernel_rfl⟩
  | 2, _ => exact ⟨b2, by simp, fun W => by kernel_rfl⟩
  | 3, _ => exact ⟨b3, by simp, fun W => by kernel_rfl⟩
  | 4, _ => exact ⟨b4, by simp, fun W => by kernel_rfl⟩
  | 5, _ => exact ⟨b5, by simp, fun W => by kernel_rfl⟩
  | 6, _ => exact ⟨b6, by simp, fun W => by kernel_rfl⟩
  | 7, _ => exact ⟨b7, by simp, fun W => by kernel_rfl⟩
  | 8, _ => exact ⟨b8, by simp, fun W => by kernel_rfl⟩
  | 9, _ => exact ⟨b9, by simp, fun W => by kernel_rfl⟩
  | 10, _ => exact ⟨b10, by simp, fun W => by kernel_rfl⟩
  | 11, _ => exact ⟨b11, by simp, fun W => by kernel_rfl⟩
  | 12, _ => exact ⟨b12, by simp, fun W => by kernel_rfl⟩
  | 13, _ => exact ⟨b13, by simp, fun W => by kernel_rfl⟩
  | 14, _ => exact ⟨b14, by simp, fun W => by kernel_rfl⟩
  | 15, _ => exact ⟨b15, by simp, fun W => by kernel_rfl⟩
  | n + 16, h => exact absurd h (by omega)
end Go.Proofs.YtibgiohijknmbaaGreatDoor

/-
  ident.Of: sixteen bytes as text.
-/
namespace Go.Proofs.YtibgiohijknmbaaGreatDoor
open Go.RowKit
set_option linter.unusedVariables false
set_option linter.unusedSimpArgs false

theorem and15z (x : Int) (h0 : 0 ≤ x) (h1 : x ≤ 255) : 0 ≤ bits BinOp.and IntKind.u8 x 15 ∧ bits BinOp.and IntKind.u8 x 15 < 16 := by
  have h : ∀ n : Fin 256, 0 ≤ bits BinOp.and IntKind.u8 (n.val : Int) 15 ∧ bits BinOp.and IntKind.u8 (n.val : Int) 15 < 16 := by decide +kernel
  have := h ⟨x.toNat, by omega⟩
  rwa [show ((⟨x.toNat, by omega⟩ : Fin 256).val : Int) = x by simp; omega] at this
def goodB (c : UInt8) : Bool := (48 ≤ c && c ≤ 57) || (97 ≤ c && c ≤ 102) || c == 45
def hexS : ByteArray := ⟨#[48, 49, 50, 51, 52, 53, 54, 55, 56, 57, 97, 98, 99, 100, 101, 102]⟩
theorem news2 (a b : Int) (n : Nat) (X : World) (hX : X.heap[n]? = some (.cells #[.int .u8 a, .int .u8 b] 5 (0, 0))) : ∀ j u, ([.int .u8 a, .int .u8 b] : List Value)[j]? = some u → X.cell? ((⟨n, 0, none⟩ : Addr).add j) = some u := fun j u hu => by
  rw [addr_add0, Lib.cell_of_heap hX j, ← hu]
  simp
theorem hex_good (i : Nat) (h : i < hexS.size) : goodB (hexS[i]'h) = true := by
  have hh : ∀ n : Fin 16, goodB (hexS[n.val]'n.isLt) = true := by decide
  exact hh ⟨i, h⟩
def dashN (k : Nat) : Nat := (if 4 < k then 1 else 0) + (if 6 < k then 1 else 0) + (if 8 < k then 1 else 0) + (if 10 < k then 1 else 0)
set_option maxRecDepth 100000 in
set_option maxHeartbeats 2000000 in
theorem ident_c (b0 b1 b2 b3 b4 b5 b6 b7 b8 b9 b10 b11 b12 b13 b14 b15 : Int) (w : World) (y6 y8 : Int) (h6 : bits BinOp.or IntKind.u8 (bits BinOp.and IntKind.u8 b6 15) 64 = y6) (h8 : bits BinOp.or IntKind.u8 (bits BinOp.and IntKind.u8 b8 63) 128 = y8) (hy : ∀ x ∈ [b0, b1, b2, b3, b4, b5, y6, b7, y8, b9, b10, b11, b12, b13, b14, b15], 0 ≤ x ∧ x ≤ 255) :
    Calls Tryz.prog 67 #[.agg #[.int .u8 b0, .int .u8 b1, .int .u8 b2, .int .u8 b3, .int .u8 b4, .int .u8 b5, .int .u8 b6, .int .u8 b7, .int .u8 b8, .int .u8 b9, .int .u8 b10, .int .u8 b11, .int .u8 b12, .int .u8 b13, .int .u8 b14, .int .u8 b15]] w fun e w' => ∃ l : List UInt8, e = .returned (.string ⟨l.toArray⟩) ∧ l.length = 36 ∧ (∀ c ∈ l, goodB c = true) ∧ Below w.heap.size w w' := by
  obtain ⟨i0, hi, hz0, hz1, hz2⟩ := info_parts binfo
  have HY := Lib.hid hy
  clear hy
  go_enter Tryz.func67, Tryz.ntmps67
  go_wp2_with fail
  go_loopw [3, 17] (fun v i wr => ∃ (k : Nat) (l : List UInt8), k ≤ 16 ∧ i = .int .i64 k ∧ Hid (wr.ownsRow (w.heap.size + 1) 5 1 v l.length (byteV l)) ∧ Hid (l.length = 2 * k + dashN k) ∧ Hid (∀ c ∈ l, goodB c = true) ∧ Below w.heap.size w wr) (fun _ i _ => (16 - intOf i).toNat)
  case atStart => exact ⟨0, [], by omega, by simp, ⟨rfl, .inl ⟨rfl, rfl⟩⟩, rfl, (fun c hc => by cases hc), (Below.refl _ _).alloc (Nat.le_refl _) _⟩
  case round =>
    obtain ⟨k, l, hk, rfl, ho, hl, hg, hbl⟩ := hrel
    by_cases hlt : k < 16
    · obtain ⟨x, hx, hix⟩ := idx16 b0 b1 b2 b3 b4 b5 y6 b7 y8 b9 b10 b11 b12 b13 b14 b15 k hlt
      obtain ⟨x0, x1⟩ := HY.out x hx
      clear hx
      have xa : 0 ≤ x / 16 ∧ x / 16 < 16 := by omega
      have xb : 0 ≤ bits BinOp.and IntKind.u8 x 15 ∧ bits BinOp.and IntKind.u8 x 15 < 16 := and15z x x0 x1
      go_wp2_with fail
      refine (dash_c k wr).mono ?_
      rintro e w1 ⟨rfl, rfl⟩
      by_cases hd : ((k : Int) = 4 ∨ (k : Int) = 6 ∨ (k : Int) = 8 ∨ (k : Int) = 10)
      · have hdd : decide ((k : Int) = 4 ∨ (k : Int) = 6 ∨ (k : Int) = 8 ∨ (k : Int) = 10) = true := by simpa using hd
        rw [hdd]
        have hl36 : l.length ≤ 36 := by have := hl.out; unfold dashN at this; split at this <;> split at this <;> split at this <;> split at this <;> omega
        go_wp2_with (at_builtin; refine wpList_append_own _ rfl _ _ 29 rfl (w.heap.size + 1) 5 i0 (.int .u8 0) 1 1 Tryz.underlying29 hi hz0 hz1 hz2 rfl (by decide) _ l.length (byteV l) rfl (World.ownsRow.alloc ho.out _) ⟨w1.heap.size, 0, none⟩ 1 1 [.int .u8 45] rfl rfl ?c1 ?c2 ?c3 ?c4 ?c5 ?_)
        case c1 =>
          intro j u hj
          match j, hj with
          | 0, hj => simp at hj; subst hj; simp [Addr.add]
        case c2 => intro u hu; simp at hu; subst hu; rfl
        case c3 => unfold maxLen; omega
        case c4 => omega
        case c5 => have := hbl.size; simp; omega
        intro v' w2 hown' hgrow _
        have hbw : Below w.heap.size w w2 := (hbl.alloc hbl.size (.cells #[.int .u8 45] 5)).grown hgrow (by have := hbl.size; simp; omega) (fun q hq => by have := (ho.out.lt q hq).1; omega)
        have HO2 := Lib.hid hown'
        clear hown' hgrow
        go_wp2_with fail
        go_region_law (refine step_append_lies _ (by rfl) (.tmp 26) (.tmp 33) 29 (by rfl) (w.heap.size + 1) 5 i0 _ 1 1 Tryz.underlying29 hi hz0 hz1 hz2 rfl (by omega) v' (l.length + 1) (byteV l ++ [.int .u8 45]) (by rfl) ((World.ownsRow.alloc HO2.out _).drew) ⟨w2.heap.size, 0, none⟩ 2 2 [.int .u8 (hexS[(x / 16).toNat]'(by show _ < 16; omega)).toNat, .int .u8 (hexS[(bits BinOp.and IntKind.u8 x 15).toNat]'(by show _ < 16; omega)).toNat] (by rfl) (by rfl) (news2 _ _ _ _ (heap_last _ _)) (by simp [Value.oneCell']) (by omega) (by unfold maxLen; omega) (by omega) (by have := hbl.size; have := hbw.size; simp; omega) (w2.heap.size + 1) (by simp) ?_; intro gg c1 w4 hown4 hgrow4 hat4 hlt4)
        all_goals
          have hbx : Below w.heap.size w w4 := ((hbw.alloc hbw.size (.cells #[.int .u8 (hexS[(x / 16).toNat]'(by show _ < 16; omega)).toNat, .int .u8 (hexS[(bits BinOp.and IntKind.u8 x 15).toNat]'(by show _ < 16; omega)).toNat] 5)).drew).grown hgrow4 (by have := hbw.size; simp; omega) (fun q hq => by have := (HO2.out.lt q hq).1; omega)
          have HO4 := Lib.hid hown4
          clear hown4 hgrow4 hat4
          go_wp2_with fail
          refine ⟨⟨k + 1, l ++ [45] ++ [hexS[(x / 16).toNat]'(by show _ < 16; omega), hexS[(bits BinOp.and IntKind.u8 x 15).toNat]'(by show _ < 16; omega)], by omega, by go_num, ?_, ?_, ?_, hbx⟩, by simp [intOf]; omega⟩
          · have := HO4.out
            refine Lib.hid ?_
            simpa [byteV, Nat.add_assoc] using this
          · have := hl.out
            refine Lib.hid ?_
            simp only [List.length_append, List.length_cons, List.length_nil]
            rw [this]
            unfold dashN
            rcases hd with hd | hd | hd | hd <;> (obtain rfl : k = _ := Int.ofNat.inj hd) <;> rfl
          · have hgo := hg.out
            refine Lib.hid ?_
            intro c hc
            simp only [List.mem_append, List.mem_cons, List.mem_nil_iff, or_false] at hc
            rcases hc with (hc | rfl) | rfl | rfl
            · exact hgo c hc
            · rfl
            · exact hex_good _ _
            · exact hex_good _ _
      · have hdd : decide ((k : Int) = 4 ∨ (k : Int) = 6 ∨ (k : Int) = 8 ∨ (k : Int) = 10) = false := by simpa using hd
        rw [hdd]
        have hl36 : l.length ≤ 36 := by have := hl.out; unfold dashN at this; split at this <;> split at this <;> split at this <;> split at this <;> omega
        go_wp2_with fail
        go_region_law (refine step_append_lies _ (by rfl) (.tmp 26) (.tmp 33) 29 (by rfl) (w.heap.size + 1) 5 i0 _ 1 1 Tryz.underlying29 hi hz0 hz1 hz2 rfl (by omega) _ l.length (byteV l) (by rfl) ((World.ownsRow.alloc ho.out _).drew) ⟨w1.heap.size, 0, none⟩ 2 2 [.int .u8 (hexS[(x / 16).toNat]'(by show _ < 16; omega)).toNat, .int .u8 (hexS[(bits BinOp.and IntKind.u8 x 15).toNat]'(by show _ < 16; omega)).toNat] (by rfl) (by rfl) (news2 _ _ _ _ (heap_last _ _)) (by simp [Value.oneCell']) (by omega) (by unfold maxLen; omega) (by omega) (by have := hbl.size; have := hbl.size; simp; omega) (w1.heap.size + 1) (by simp) ?_; intro gg c1 w4 hown4 hgrow4 hat4 hlt4)
        all_goals
          have hbx : Below w.heap.size w w4 := ((hbl.alloc hbl.size (.cells #[.int .u8 (hexS[(x / 16).toNat]'(by show _ < 16; omega)).toNat, .int .u8 (hexS[(bits BinOp.and IntKind.u8 x 15).toNat]'(by show _ < 16; omega)).toNat] 5)).drew).grown hgrow4 (by have := hbl.size; simp; omega) (fun q hq => by have := (ho.out.lt q hq).1; omega)
          have HO4 := Lib.hid hown4
          clear hown4 hgrow4 hat4
          go_wp2_with fail
          refine ⟨⟨k + 1, l ++ [hexS[(x / 16).toNat]'(by show _ < 16; omega), hexS[(bits BinOp.and IntKind.u8 x 15).toNat]'(by show _ < 16; omega)], by omega, by go_num, ?_, ?_, ?_, hbx⟩, by simp [intOf]; omega⟩
          · have := HO4.out
            refine Lib.hid ?_
            simpa [byteV, Nat.add_assoc] using this
          · have := hl.out
            refine Lib.hid ?_
            simp only [List.length_append, List.length_cons, List.length_nil]
            rw [this]
            unfold dashN
            (split <;> split <;> split <;> split <;> split <;> split <;> split <;> split <;> omega)
          · have hgo := hg.out
            refine Lib.hid ?_
            intro c hc
            simp only [List.mem_append, List.mem_cons, List.mem_nil_iff, or_false] at hc
            rcases hc with hc | rfl | rfl
            · exact hgo c hc
            · exact hex_good _ _
            · exact hex_good _ _
    · obtain rfl : k = 16 := by omega
      have hcv := conv_own ho.out
      go_wp2_with fail
      go_ret
      exact ⟨l, rfl, by rw [hl.out]; rfl, hg.out, hbl⟩
end Go.Proofs.YtibgiohijknmbaaGreatDoor
