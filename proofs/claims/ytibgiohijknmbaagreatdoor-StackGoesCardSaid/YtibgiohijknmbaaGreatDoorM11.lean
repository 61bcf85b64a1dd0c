/-
  Joined texts: New, Create.
-/
import Derived.Test.YtibgiohijknmbaaGreatDoorM10
import Derived.Conc.SmallLaws
import Derived.RegionTactic
import Derived.ChangeAlike
import Derived.Deep.RegionHeld3
import Derived.IntWalk
/-
  table.New, store.New, mail.New, stack.New where the caps may be.
-/
namespace Go.Proofs.YtibgiohijknmbaaGreatDoor
open Go.RowKit
set_option linter.unusedVariables false
set_option linter.unusedSimpArgs false

def TabNew (w : World) (room : Int) (e : Ending) (w' : World) : Prop := ∃ tb, e = .returned (.tuple #[.pointer (some ⟨tb, 0, none⟩), .int .i64 0]) ∧ TabAt w' w.heap.size tb [] room 0 ∧ Below w.heap.size w w'
theorem tnew_c (room : Int) (w : World) (h1 : 1 ≤ room) (h2 : room ≤ 64) :
    Calls Tryz.prog 41 #[.int .i64 room] w (TabNew w room) := by
  have n1 : ¬ room < 1 := by omega
  have n2 : ¬ 64 < room := by omega
  go_enter Tryz.func41, Tryz.ntmps41
  go_wp2
  go_ret2
  exact ⟨_, rfl, ⟨Nat.le_refl _, by simp, _, heap_last _ _, World.ownsRow_nil _ _ _ _⟩, (Below.refl _ _).alloc (Nat.le_refl _) _⟩

/-- A store in memory: nothing in it. -/
def StoreNil (w : World) (B sb : Nat) (room : Int) : Prop := B ≤ sb ∧ w.heap[sb]? = some (.cells #[.slice none 0 0, .int .i64 room] 135 (0, 0))
def StoNew (w : World) (room : Int) (e : Ending) (w' : World) : Prop := ∃ sb, e = .returned (.tuple #[.pointer (some ⟨sb, 0, none⟩), .int .i64 0]) ∧ StoreNil w' w.heap.size sb room ∧ Below w.heap.size w w'
theorem snew_c (room : Int) (w : World) (h1 : 1 ≤ room) (h2 : room ≤ 64) :
    Calls Tryz.prog 42 #[.int .i64 room] w (StoNew w room) := by
  have n1 : ¬ room < 1 := by omega
  have n2 : ¬ 64 < room := by omega
  go_enter Tryz.func42, Tryz.ntmps42
  go_wp2
  go_ret2
  exact ⟨_, rfl, ⟨Nat.le_refl _, heap_last _ _⟩, (Below.refl _ _).alloc (Nat.le_refl _) _⟩

/-- Mail in memory: what lies in its two boxes. -/
def MailAt (w : World) (B mb : Nat) (room : Nat) (us ps : List ByteArray) : Prop :=
  B ≤ mb ∧ ∃ a b, a ≠ b ∧ B ≤ a ∧ B ≤ b ∧ w.heap[mb]? = some (.cells #[.chan (some a), .chan (some b)] 141 (0, 0)) ∧
    (∃ s r, w.heap[a]? = some (.chan room (us.map Value.string).toArray false s r false)) ∧ ∃ s r, w.heap[b]? = some (.chan room (ps.map Value.string).toArray false s r false)
def MaiNew (w : World) (room : Nat) (e : Ending) (w' : World) : Prop := ∃ mb, e = .returned (.tuple #[.pointer (some ⟨mb, 0, none⟩), .int .i64 0]) ∧ MailAt w' w.heap.size mb room [] [] ∧ Below w.heap.size w w'
theorem cinfo : ∃ i, Tryz.prog.info? 9 = some i ∧ i.bytes = 16 := by
  obtain ⟨i0, hi, hz0, hz1, hz2⟩ := info_parts (show (Tryz.prog.info? 9).map (fun i => (i.zero, i.size, i.bytes)) = some (some (.string ByteArray.empty), 1, 16) by kernel_rfl)
  exact ⟨i0, hi, hz2⟩
theorem mkchan (n : Nat) (hn : n ≤ 64) (w : World) : (Instr.makeChan 139 (.int .i64 n)).run Tryz.prog w = .ok (.chan (some w.heap.size)) (w.alloc (.chan n #[] false 0 0 false)) := by
  obtain ⟨i, hi, hb⟩ := cinfo
  exact Go.Conc.run_makeChan (P := Tryz.prog) (w := w) Tryz.underlying139 hi .i64 n (by omega) (by rw [hb]; omega)
theorem mail_made (w : World) (room a b : Nat) (hab : a ≠ b) (ha : w.heap.size ≤ a) (hb : w.heap.size ≤ b) (ha2 : a < w.heap.size + 2) (hb2 : b < w.heap.size + 2) :
    MailAt (((w.alloc (.chan room #[] false 0 0 false)).alloc (.chan room #[] false 0 0 false)).alloc (.cells #[.chan (some a), .chan (some b)] 141)).drew w.heap.size (w.heap.size + 1 + 1) room [] [] := by
  have s1 : (w.alloc (.chan room #[] false 0 0 false)).heap.size = w.heap.size + 1 := by simp
  have s2 : ((w.alloc (.chan room #[] false 0 0 false)).alloc (.chan room #[] false 0 0 false)).heap.size = w.heap.size + 1 + 1 := by simp
  have hc : ∀ k, w.heap.size ≤ k → k < w.heap.size + 2 → (((w.alloc (.chan room #[] false 0 0 false)).alloc (.chan room #[] false 0 0 false)).alloc (.cells #[.chan (some a), .chan (some b)] 141)).heap[k]? = some (.chan room #[] false 0 0 false) := fun k h1 h2 => by
    rw [Below.heap_alloc _ _ _ (by omega)]
    by_cases e : k = w.heap.size
    · rw [Below.heap_alloc _ _ _ (by omega), e]
      exact heap_last _ _
    · have e2 : k = w.heap.size + 1 := by omega
      have := heap_last (w.alloc (.chan room #[] false 0 0 false)) (.chan room #[] false 0 0 false)
      rw [s1] at this
      rw [e2]
      exact this
  have hm := heap_last ((w.alloc (.chan room #[] false 0 0 false)).alloc (.chan room #[] false 0 0 false)) (.cells #[.chan (some a), .chan (some b)] 141)
  rw [s2] at hm
  exact ⟨by omega, a, b, hab, ha, hb, hm, ⟨0, 0, hc a ha ha2⟩, ⟨0, 0, hc b hb hb2⟩⟩
set_option maxHeartbeats 1000000 in
theorem mnew_c (room : Nat) (w : World) (h1 : 1 ≤ room) (h2 : room ≤ 64) :
    Calls Tryz.prog 43 #[.int .i64 room] w (MaiNew w room) := by
  have n1 : ¬ (room : Int) < 1 := by omega
  have n2 : ¬ 64 < (room : Int) := by omega
  have hmk := mkchan room h2
  clear h1 h2
  go_enter Tryz.func43, Tryz.ntmps43
  go_wp2
  go_region
  all_goals
    go_wp2
    go_ret2
  · exact ⟨_, rfl, mail_made w room w.heap.size (w.heap.size + 1) (by omega) (Nat.le_refl _) (by omega) (by omega) (by omega), ((((Below.refl _ _).alloc (Nat.le_refl _) _).alloc (by simp) _).alloc (by simp; omega) _).drew⟩
  · exact ⟨_, rfl, mail_made w room (w.heap.size + 1) w.heap.size (by omega) (by omega) (Nat.le_refl _) (by omega) (by omega), ((((Below.refl _ _).alloc (Nat.le_refl _) _).alloc (by simp) _).alloc (by simp; omega) _).drew⟩

/-- A new stack. -/
def StkNew (w : World) (blobs : Int) (urls : Nat) (bytes : Int) (e : Ending) (w' : World) : Prop :=
  ∃ s tb sb mb, e = .returned (.tuple #[.pointer (some ⟨s, 0, none⟩), .int .i64 0]) ∧ StackAt w' w.heap.size s tb sb mb bytes ∧ TabAt w' w.heap.size tb [] blobs 0 ∧ StoreNil w' w.heap.size sb urls ∧ MailAt w' w.heap.size mb urls [] [] ∧ Below w.heap.size w w'
/-- What stands in memory stays while a cell of another block is written. -/
theorem TabAt.other {w : World} {B tb b j : Nat} {es : Ents} {room last : Int} {v : Value} (h : TabAt w B tb es room last) (ty : ∃ c T fz, w.heap[b]? = some (.cells c T fz) ∧ T ≠ 127 ∧ T ≠ 124) : TabAt (w.setCell ⟨b, j, none⟩ v) B tb es room last := by
  obtain ⟨c, T, fz, hb, n1, n2⟩ := ty
  obtain ⟨h1, h2, lv, hv, ho⟩ := h
  refine ⟨h1, h2, lv, ?_, ?_⟩
  · rw [heap_setCell_other]
    · exact hv
    · rintro rfl
      rw [hb] at hv
      injection Option.some.inj hv with _ e
      exact n1 e
  · refine ownsRow_setCell_other ho ?_ _
    intro e
    obtain ⟨cells, hc⟩ := own_typed2 ho b e
    rw [hb] at hc
    injection Option.some.inj hc with _ e
    exact n2 e
theorem StoreNil.other {w : World} {B sb b j : Nat} {room : Int} {v : Value} (h : StoreNil w B sb room) (ne : sb ≠ b) : StoreNil (w.setCell ⟨b, j, none⟩ v) B sb room :=
  ⟨h.1, by rw [heap_setCell_other _ _ _ _ ne]; exact h.2⟩
theorem StoreNil.later {w w' : World} {B sb : Nat} {room : Int} (h : StoreNil w B sb room) (hb : Below w.heap.size w w') : StoreNil w' B sb room := ⟨h.1, (hb.block _ (Array.getElem?_eq_some_iff.1 h.2).1).trans h.2⟩
theorem MailAt.lt {w : World} {B mb room : Nat} {us ps : List ByteArray} (h : MailAt w B mb room us ps) : mb < w.heap.size := by
  obtain ⟨_, a, b, _, _, _, h1, _⟩ := h
  exact (Array.getElem?_eq_some_iff.1 h1).1
theorem MailAt.other {w : World} {B mb room b j : Nat} {us ps : List ByteArray} {v : Value} (h : MailAt w B mb room us ps) (ne : mb ≠ b) (ty : ∃ c T fz, w.heap[b]? = some (.cells c T fz)) : MailAt (w.setCell ⟨b, j, none⟩ v) B mb room us ps := by
  obtain ⟨c, T, fz, hb⟩ := ty
  obtain ⟨h1, x, y, hxy, hx, hy, h2, ⟨s, r, h3⟩, s', r', h4⟩ := h
  have nx : x ≠ b := by rintro rfl; rw [hb] at h3; cases Option.some.inj h3
  have ny : y ≠ b := by rintro rfl; rw [hb] at h4; cases Option.some.inj h4
  exact ⟨h1, x, y, hxy, hx, hy, by rw [heap_setCell_other _ _ _ _ ne]; exact h2, ⟨s, r, by rw [heap_setCell_other _ _ _ _ nx]; exact h3⟩, s', r', by rw [heap_setCell_other _ _ _ _ ny]; exact h4⟩
theorem MailAt.later {w w' : World} {B mb room : Nat} {us ps : List ByteArray} (h : MailAt w B mb room us ps) (hb : Below w.heap.size w w') : MailAt w' B mb room us ps := by
  have hl : ∀ (k : Nat) (o : Obj), w.heap[k]? = some o → w'.heap[k]? = some o := fun k o ho => (hb.block k (Array.getElem?_eq_some_iff.1 ho).1).trans ho
  obtain ⟨h1, x, y, hxy, hx, hy, h2, ⟨s, r, h3⟩, s', r', h4⟩ := h
  exact ⟨h1, x, y, hxy, hx, hy, hl _ _ h2, ⟨s, r, hl _ _ h3⟩, s', r', hl _ _ h4⟩
theorem TabAt.base {w : World} {B B' tb : Nat} {es : Ents} {room last : Int} (h : TabAt w B tb es room last) (hB : B' ≤ B) : TabAt w B' tb es room last := by
  obtain ⟨h1, h2, lv, hv, ho⟩ := h
  refine ⟨Nat.le_trans hB h1, h2, lv, hv, ho.1, ?_⟩
  rcases ho.2 with h3 | ⟨g, cap, cur, hv, hg, r⟩
  · exact Or.inl h3
  · exact Or.inr ⟨g, cap, cur, hv, Nat.le_trans hB hg, r⟩
theorem StoreNil.base {w : World} {B B' sb : Nat} {room : Int} (h : StoreNil w B sb room) (hB : B' ≤ B) : StoreNil w B' sb room := ⟨Nat.le_trans hB h.1, h.2⟩
theorem MailAt.base {w : World} {B B' mb room : Nat} {us ps : List ByteArray} (h : MailAt w B mb room us ps) (hB : B' ≤ B) : MailAt w B' mb room us ps := by
  obtain ⟨h1, x, y, hxy, hx, hy, r⟩ := h
  exact ⟨Nat.le_trans hB h1, x, y, hxy, Nat.le_trans hB hx, Nat.le_trans hB hy, r⟩

def capsV (blobs urls bytes : Int) : Array Value := #[.int .i64 blobs, .int .i64 urls, .int .i64 bytes]
/-- The world in the middle of a New. -/
structure NInv (w W : World) (blobs urls bytes : Int) (x0 x1 x2 : Value) : Prop where
  caps : W.heap[w.heap.size]? = some (.cells (capsV blobs urls bytes) 53 (0, 0))
  stk : W.heap[w.heap.size + 1]? = some (.cells #[x0, x1, x2, .int .i64 bytes] 83 (0, 0))
  bel : Below w.heap.size w W
theorem NInv.lt {w W : World} {blobs urls bytes : Int} {x0 x1 x2 : Value} (h : NInv w W blobs urls bytes x0 x1 x2) : w.heap.size + 1 < W.heap.size := (Array.getElem?_eq_some_iff.1 h.stk).1
theorem NInv.below {w W W' : World} {blobs urls bytes : Int} {x0 x1 x2 : Value} (h : NInv w W blobs urls bytes x0 x1 x2) (k : Below W.heap.size W W') : NInv w W' blobs urls bytes x0 x1 x2 :=
  ⟨(k.block _ (by have := h.lt; omega)).trans h.caps, (k.block _ h.lt).trans h.stk, h.bel.trans (k.mono h.bel.size)⟩
theorem NInv.set {w W : World} {blobs urls bytes : Int} {x0 x1 x2 y0 y1 y2 : Value} {j : Nat} {v : Value} (h : NInv w W blobs urls bytes x0 x1 x2)
    (e : (#[x0, x1, x2, .int .i64 bytes] : Array Value).setIfInBounds j v = #[y0, y1, y2, .int .i64 bytes]) : NInv w (W.setCell ⟨w.heap.size + 1, j, none⟩ v) blobs urls bytes y0 y1 y2 :=
  ⟨by rw [heap_setCell_other _ _ _ _ (by simp)]; exact h.caps, by have := heap_setCell_same W (w.heap.size + 1) j _ _ v h.stk; rw [e] at this; exact this, h.bel.setCell (Nat.le_succ _) _⟩
def newW0 (w : World) (blobs urls bytes : Int) : World := (w.alloc (.cells (capsV blobs urls bytes) 53)).alloc (.cells #[.pointer none, .pointer none, .pointer none, .int .i64 bytes] 83)
theorem new_start (w : World) (blobs urls bytes : Int) : NInv w (newW0 w blobs urls bytes) blobs urls bytes (.pointer none) (.pointer none) (.pointer none) := by
  have hs : (w.alloc (.cells (capsV blobs urls bytes) 53)).heap.size = w.heap.size + 1 := by simp
  refine ⟨?_, ?_, ((Below.refl _ _).alloc (Nat.le_refl _) _).alloc (by simp) _⟩
  · show ((w.alloc _).alloc _).heap[_]? = _
    rw [Below.heap_alloc _ _ _ (by omega)]
    exact heap_last _ _
  · have := heap_last (w.alloc (.cells (capsV blobs urls bytes) 53)) (.cells #[.pointer none, .pointer none, .pointer none, .int .i64 bytes] 83)
    rw [hs] at this
    exact this
theorem tyneq {w W : World} {blobs urls bytes : Int} {x0 x1 x2 : Value} (h : NInv w W blobs urls bytes x0 x1 x2) : ∃ c T fz, W.heap[w.heap.size + 1]? = some (.cells c T fz) ∧ T ≠ 127 ∧ T ≠ 124 := ⟨_, _, _, h.stk, by decide, by decide⟩
set_option maxRecDepth 100000 in
set_option maxHeartbeats 1000000 in
theorem stnew_c (blobs : Int) (urls : Nat) (bytes : Int) (w : World) (h1 : 1 ≤ blobs) (h2 : blobs ≤ 64) (h3 : 1 ≤ urls) (h4 : urls ≤ 64) (h5 : 0 ≤ bytes) (h6 : bytes ≤ 1048576) :
    Calls Tryz.prog 19 #[.agg (capsV blobs urls bytes)] w (StkNew w blobs urls bytes) := by
  have n5 : ¬ bytes < 0 := by omega
  have n6 : ¬ 1048576 < bytes := by omega
  have t1 := fun W => tnew_c blobs W h1 h2
  have t2 := fun W => snew_c (urls : Int) W (by omega) (by omega)
  have t3 := fun W => mnew_c urls W h3 h4
  clear h1 h2 h3 h4 h5 h6
  have I0 := new_start w blobs urls bytes
  unfold capsV
  go_enter Tryz.func19, Tryz.ntmps19
  go_wp2_with fail
  change Calls _ _ _ (newW0 w blobs urls bytes) _
  generalize newW0 w blobs urls bytes = W0 at *
  refine (t1 _).mono ?_
  rintro e w1 ⟨tb, rfl, hT, hb1⟩
  have I1 := I0.below hb1
  have hT1 := hT.base I0.bel.size
  have htne : tb ≠ w.heap.size + 1 := by have := I0.lt; have := hT.1; omega
  have q0 : w1.cell? ⟨w.heap.size + 1, 0, none⟩ = some (.pointer none) := Lib.cell_of_heap I1.stk 0
  have qz := fun j => frozen_of_row w1 (w.heap.size + 1) j _ _ I1.stk
  have k1 : w1.cell? ⟨w.heap.size, 1, none⟩ = some (.int .i64 urls) := Lib.cell_of_heap I1.caps 1
  have hl := I1.lt
  have hl' : w.heap.size < w1.heap.size := by omega
  clear I0 hb1 hT t1
  go_wp2_with fail
  have I2 : NInv w (w1.setCell ⟨w.heap.size + 1, 0, none⟩ (.pointer (some ⟨tb, 0, none⟩))) blobs urls bytes (.pointer (some ⟨tb, 0, none⟩)) (.pointer none) (.pointer none) := I1.set rfl
  have hT2 : TabAt (w1.setCell ⟨w.heap.size + 1, 0, none⟩ (.pointer (some ⟨tb, 0, none⟩))) w.heap.size tb [] blobs 0 := hT1.other (tyneq I1)
  generalize w1.setCell ⟨w.heap.size + 1, 0, none⟩ (.pointer (some ⟨tb, 0, none⟩)) = W2 at *
  clear I1 hT1 q0 qz k1 hl hl'
  refine (t2 _).mono ?_
  rintro e w3 ⟨sb, rfl, hSt, hb3⟩
  have I3 := I2.below hb3
  have hT3 := hT2.later hb3
  have hS3 := hSt.base I2.bel.size
  have hsne : sb ≠ w.heap.size + 1 := by have := I2.lt; have := hSt.1; omega
  have q1 : w3.cell? ⟨w.heap.size + 1, 1, none⟩ = some (.pointer none) := Lib.cell_of_heap I3.stk 1
  have qz := fun j => frozen_of_row w3 (w.heap.size + 1) j _ _ I3.stk
  have k1 : w3.cell? ⟨w.heap.size, 1, none⟩ = some (.int .i64 urls) := Lib.cell_of_heap I3.caps 1
  have hl := I3.lt
  have hl' : w.heap.size < w3.heap.size := by omega
  clear I2 hb3 hSt t2 hT2
  go_wp2_with fail
  have I4 : NInv w (w3.setCell ⟨w.heap.size + 1, 1, none⟩ (.pointer (some ⟨sb, 0, none⟩))) blobs urls bytes (.pointer (some ⟨tb, 0, none⟩)) (.pointer (some ⟨sb, 0, none⟩)) (.pointer none) := I3.set rfl
  have hT4 : TabAt (w3.setCell ⟨w.heap.size + 1, 1, none⟩ (.pointer (some ⟨sb, 0, none⟩))) w.heap.size tb [] blobs 0 := hT3.other (tyneq I3)
  have hS4 : StoreNil (w3.setCell ⟨w.heap.size + 1, 1, none⟩ (.pointer (some ⟨sb, 0, none⟩))) w.heap.size sb urls := hS3.other hsne
  generalize w3.setCell ⟨w.heap.size + 1, 1, none⟩ (.pointer (some ⟨sb, 0, none⟩)) = W4 at *
  clear I3 hT3 hS3 q1 qz k1 hl hl'
  refine (t3 _).mono ?_
  rintro e w5 ⟨mb, rfl, hM, hb5⟩
  have I5 := I4.below hb5
  have hT5 := hT4.later hb5
  have hS5 := hS4.later hb5
  have hM5 := hM.base I4.bel.size
  have hmne : mb ≠ w.heap.size + 1 := by have := I4.lt; have := hM.1; omega
  have q2 : w5.cell? ⟨w.heap.size + 1, 2, none⟩ = some (.pointer none) := Lib.cell_of_heap I5.stk 2
  have qz := fun j => frozen_of_row w5 (w.heap.size + 1) j _ _ I5.stk
  have k2 : w5.cell? ⟨w.heap.size, 2, none⟩ = some (.int .i64 bytes) := Lib.cell_of_heap I5.caps 2
  have hl := I5.lt
  have hl' : w.heap.size < w5.heap.size := by omega
  clear I4 hb5 hM t3 hT4 hS4
  have I6 : NInv w (w5.setCell ⟨w.heap.size + 1, 2, none⟩ (.pointer (some ⟨mb, 0, none⟩))) blobs urls bytes (.pointer (some ⟨tb, 0, none⟩)) (.pointer (some ⟨sb, 0, none⟩)) (.pointer (some ⟨mb, 0, none⟩)) := I5.set rfl
  have hT6 : TabAt (w5.setCell ⟨w.heap.size + 1, 2, none⟩ (.pointer (some ⟨mb, 0, none⟩))) w.heap.size tb [] blobs 0 := hT5.other (tyneq I5)
  have hS6 : StoreNil (w5.setCell ⟨w.heap.size + 1, 2, none⟩ (.pointer (some ⟨mb, 0, none⟩))) w.heap.size sb urls := hS5.other hsne
  have hM6 : MailAt (w5.setCell ⟨w.heap.size + 1, 2, none⟩ (.pointer (some ⟨mb, 0, none⟩))) w.heap.size mb urls [] [] := hM5.other hmne ⟨_, _, _, I5.stk⟩
  have HF := Lib.hid (And.intro I6 (And.intro hT6 (And.intro hS6 hM6)))
  clear I5 hT5 hS5 hM5 I6 hT6 hS6 hM6
  go_wp2
  go_ret2
  obtain ⟨I6, hT6, hS6, hM6⟩ := HF.out
  exact ⟨_, tb, sb, mb, rfl, ⟨Nat.le_succ _, I6.stk⟩, hT6, hS6, hM6, I6.bel⟩
end Go.Proofs.YtibgiohijknmbaaGreatDoor

/-
  stack.put, stack.Create.
-/
namespace Go.Proofs.YtibgiohijknmbaaGreatDoor
open Go.RowKit
set_option linter.unusedVariables false
set_option linter.unusedSimpArgs false

theorem un_drew {w w1 : World} (h : Below w.drew.heap.size w.drew w1) : Below w.heap.size w w1 := ((Below.refl w.heap.size w).drew).trans (h.mono (by simp))
theorem ty_below {w w' : World} (h : Below w.heap.size w w') (ts : List TypeId) : TyKept ts w w' := fun k c T fz hk _ => h.block k (Array.getElem?_eq_some_iff.1 hk).1
theorem ch_below {w w' : World} (h : Below w.heap.size w w') : ChKept w w' := fun k cp buf cl s r tm hk => h.block k (Array.getElem?_eq_some_iff.1 hk).1
theorem TyKept.trans {ts : List TypeId} {a b c : World} (h : TyKept ts a b) (k : TyKept ts b c) : TyKept ts a c := fun i cc T fz hi hT => by
  have h1 := h i cc T fz hi hT
  exact (k i cc T fz (h1.trans hi) hT).trans h1
theorem ChKept.trans {a b c : World} (h : ChKept a b) (k : ChKept b c) : ChKept a c := fun i cp buf cl s r tm hi => by
  have h1 := h i cp buf cl s r tm hi
  exact (k i cp buf cl s r tm (h1.trans hi)).trans h1
abbrev tabTs : List TypeId := [127, 124]
/-- What stays where blocks of some types alone are turned. -/
theorem StackAt.ty {w w' : World} {B s tb sb mb : Nat} {most : Int} {ts : List TypeId} (h : StackAt w B s tb sb mb most) (k : TyKept ts w w') (hT : 83 ∉ ts) : StackAt w' B s tb sb mb most := ⟨h.1, (k _ _ _ _ h.2 hT).trans h.2⟩
theorem StoreNil.ty {w w' : World} {B sb : Nat} {room : Int} {ts : List TypeId} (h : StoreNil w B sb room) (k : TyKept ts w w') (hT : 135 ∉ ts) : StoreNil w' B sb room := ⟨h.1, (k _ _ _ _ h.2 hT).trans h.2⟩
theorem MailAt.ty {w w' : World} {B mb room : Nat} {us ps : List ByteArray} {ts : List TypeId} (h : MailAt w B mb room us ps) (k : TyKept ts w w') (c : ChKept w w') (hT : 141 ∉ ts) : MailAt w' B mb room us ps := by
  obtain ⟨h1, x, y, hxy, hx, hy, h2, ⟨s, r, h3⟩, s', r', h4⟩ := h
  exact ⟨h1, x, y, hxy, hx, hy, (k _ _ _ _ h2 hT).trans h2, ⟨s, r, (c _ _ _ _ _ _ _ h3).trans h3⟩, s', r', (c _ _ _ _ _ _ _ h4).trans h4⟩
theorem BlobAt.ty {w w' : World} {B blk : Nat} {l : List UInt8} {q : ByteArray} {ts : List TypeId} (h : BlobAt w B blk l q) (k : TyKept ts w w') (h1 : 121 ∉ ts) (h2 : 5 ∉ ts) : BlobAt w' B blk l q := by
  obtain ⟨hb, v, hv, ho⟩ := h
  refine ⟨hb, v, (k _ _ _ _ hv h1).trans hv, ⟨ho.1, ?_⟩⟩
  rcases ho.2 with h3 | ⟨g, cap, cur, e, hg, hh, r⟩
  · exact Or.inl h3
  · exact Or.inr ⟨g, cap, cur, e, hg, (k _ _ _ _ hh h2).trans hh, r⟩
theorem BlobsAt.ty {w w' : World} {B : Nat} {es : Ents} {bs : Nat → List UInt8} {ks : Nat → ByteArray} {ts : List TypeId} (h : BlobsAt w B es bs ks) (k : TyKept ts w w') (h1 : 121 ∉ ts) (h2 : 5 ∉ ts) : BlobsAt w' B es bs ks :=
  fun e he => ⟨(h e he).1.ty k h1 h2, (h e he).2⟩

def SPut (B tb : Nat) (es : Ents) (room last most : Int) (bs : Nat → List UInt8) (blk : Nat) (l : List UInt8) (w : World) (e : Ending) (w' : World) : Prop :=
  if most < sumTo es bs es + (l.length : Int) then e = .returned (.tuple #[.int .i64 0, .int .i64 7]) ∧ Below w.heap.size w w'
  else if (es.length : Int) = room then e = .returned (.tuple #[.int .i64 0, .int .i64 4]) ∧ Below w.heap.size w w'
  else e = .returned (.tuple #[.int .i64 (last + 1), .int .i64 0]) ∧ TabAt w' B tb (es ++ [(last + 1, blk)]) room (last + 1) ∧ Below B w w' ∧ TyKept tabTs w w' ∧ ChKept w w'

set_option maxRecDepth 100000 in
set_option maxHeartbeats 1000000 in
theorem sput_c (B s tb sb mb : Nat) (most : Int) (es : Ents) (room last : Int) (bs : Nat → List UInt8) (ks : Nat → ByteArray) (blk : Nat) (l : List UInt8) (q : ByteArray) (w : World)
    (hS : StackAt w B s tb sb mb most) (hT : TabAt w B tb es room last) (hB : BlobsAt w B es bs ks) (hb : BlobAt w B blk l q) (hl : l.length ≤ 1048576) (hr : room ≤ 64) (hfull : es.length < 64 ∨ (es.length : Int) = room) (h0 : 0 ≤ last) (h1 : last ≤ 1000000) :
    Calls Tryz.prog 27 #[.pointer (some ⟨s, 0, none⟩), .pointer (some ⟨blk, 0, none⟩)] w (SPut B tb es room last most bs blk l w) := by
  have hBs := hS.1
  have hbd := sumTo_bound es bs (fun e he => (hB e he).2) es (fun _ h => h)
  have hn := hT.2.1
  have hby := fun (W : World) (h : Below w.heap.size w W) => sbytes_c B s tb sb mb most es room last bs ks W (hS.later h) (hT.later h) (hB.later h)
  have c3 : w.cell? ⟨s, 3, none⟩ = some (.int .i64 most) := Lib.cell_of_heap hS.2 3
  have hslt := hS.lt
  have HS := Lib.hid hS
  have HT := Lib.hid hT
  have HB := Lib.hid hb
  have HF := Lib.hid hfull
  have hby : Hid (∀ (W : World), Below w.heap.size w W → Calls Tryz.prog 16 #[.pointer (some ⟨s, 0, none⟩)] W fun e w' => e = .returned (.int .i64 (sumTo es bs es)) ∧ Below W.heap.size W w') := hby
  generalize hsum : sumTo es bs es = n at *
  have HSUM := Lib.hid hsum
  have hwr : IntKind.i64.wrap (n + (l.length : Int)) = n + (l.length : Int) := IntWalk.i64_in _ ⟨by omega, by omega⟩
  clear hS hT hB hb hfull hsum
  by_cases hq : most < n + (l.length : Int)
  · have HQ := Lib.hid hq
    have hq' : decide (most < n + (l.length : Int)) = true := by simpa using hq
    clear hq
    go_enter Tryz.func27, Tryz.ntmps27
    go_wp2_with fail
    go_region_held3 (fun W => W.cell? ⟨s, 3, none⟩ = some (.int .i64 most)) (first | go_keep | (exact (hb1.cell (p := ⟨s, 3, none⟩) hslt).trans c3))
      (first | (go_at_call 16; refine (hby.out _ (Below.refl _ w).drew).mono ?_; rintro e w1 ⟨rfl, hb1⟩; replace hb1 := un_drew hb1) | (go_at_call 39; refine (len_c B blk l q _ (HB.out.later hb1)).mono ?_; rintro e w2 ⟨rfl, rfl⟩))
    go_wp2_with fail
    go_ret2
    unfold SPut
    rw [HSUM.out, if_pos HQ.out]
    exact ⟨rfl, hb1⟩
  · have HQ := Lib.hid hq
    have hq' : decide (most < n + (l.length : Int)) = false := by simpa using hq
    clear hq
    go_enter Tryz.func27, Tryz.ntmps27
    go_wp2_with fail
    go_region_held3 (fun W => W.cell? ⟨s, 3, none⟩ = some (.int .i64 most)) (first | go_keep | (exact (hb1.cell (p := ⟨s, 3, none⟩) hslt).trans c3))
      (first | (go_at_call 16; refine (hby.out _ (Below.refl _ w).drew).mono ?_; rintro e w1 ⟨rfl, hb1⟩; replace hb1 := un_drew hb1) | (go_at_call 39; refine (len_c B blk l q _ (HB.out.later hb1)).mono ?_; rintro e w2 ⟨rfl, rfl⟩))
    have c0 : w1.cell? ⟨s, 0, none⟩ = some (.pointer (some ⟨tb, 0, none⟩)) := Lib.cell_of_heap (HS.out.later hb1).2 0
    go_wp2_with fail
    have hB1 : B ≤ w.heap.size := Nat.le_trans hBs (Nat.le_of_lt HS.out.lt)
    have hput := put_c B tb es room last blk w1 (HT.out.later hb1) hr HF.out h0 h1
    clear hby
    by_cases hfl : (es.length : Int) = room
    · have HFL := Lib.hid hfl
      clear hfl
      refine hput.mono ?_
      intro e w3 hp
      unfold PutOk at hp
      rw [if_pos HFL.out] at hp
      obtain ⟨rfl, hb3⟩ := hp
      clear hput
      go_wp2
      go_ret2
      unfold SPut
      rw [HSUM.out, if_neg (by have hh := HQ.out; omega), if_pos HFL.out]
      exact ⟨rfl, hb1.trans (hb3.mono hb1.size)⟩
    · have HFL := Lib.hid hfl
      clear hfl
      refine hput.mono ?_
      intro e w3 hp
      unfold PutOk at hp
      rw [if_neg HFL.out] at hp
      obtain ⟨rfl, hp⟩ := hp
      have HP := Lib.hid hp
      clear hput hp
      go_wp2
      go_ret2
      unfold SPut
      rw [HSUM.out, if_neg (by have hh := HQ.out; omega), if_neg HFL.out]
      obtain ⟨hp1, hp2, hp3, hp4⟩ := HP.out
      exact ⟨rfl, hp1, (hb1.mono hB1).trans hp2, (ty_below hb1 _).trans hp3, (ch_below hb1).trans hp4⟩

/-- What Create answers, and what stands in memory then. -/
def SCre (B tb : Nat) (es : Ents) (room last most : Int) (bs : Nat → List UInt8) (l : List UInt8) (k : ByteArray) (w : World) (e : Ending) (w' : World) : Prop :=
  ∃ blk, w.heap.size ≤ blk ∧ BlobAt w' w.heap.size blk l ⟨(kindF k.data.toList).toArray⟩ ∧
    if most < sumTo es bs es + (l.length : Int) then e = .returned (.tuple #[.int .i64 0, .int .i64 7]) ∧ Below w.heap.size w w'
    else if (es.length : Int) = room then e = .returned (.tuple #[.int .i64 0, .int .i64 4]) ∧ Below w.heap.size w w'
    else e = .returned (.tuple #[.int .i64 (last + 1), .int .i64 0]) ∧ TabAt w' B tb (es ++ [(last + 1, blk)]) room (last + 1) ∧ Below B w w' ∧ TyKept tabTs w w' ∧ ChKept w w'

set_option maxRecDepth 100000 in
set_option maxHeartbeats 1000000 in
theorem create_c (B s tb sb mb : Nat) (most : Int) (es : Ents) (room last : Int) (bs : Nat → List UInt8) (ks : Nat → ByteArray) (l : List UInt8) (a : Option Addr) (cap : Nat) (q : ByteArray) (w : World)
    (hS : StackAt w B s tb sb mb most) (hT : TabAt w B tb es room last) (hB : BlobsAt w B es bs ks) (hsrc : SrcAt w a cap l) (hl : l.length ≤ 1048576) (hq : q.size ≤ 1073741824) (hr : room ≤ 64) (hfull : es.length < 64 ∨ (es.length : Int) = room) (h0 : 0 ≤ last) (h1 : last ≤ 1000000) :
    Calls Tryz.prog 9 #[.pointer (some ⟨s, 0, none⟩), .slice a l.length cap, .string q] w (SCre B tb es room last most bs l q w) := by
  have hBs := hS.1
  have hB1 : B ≤ w.heap.size := Nat.le_trans hBs (Nat.le_of_lt hS.lt)
  have hnew := new_c l a cap q w (by omega) hsrc hq
  have HS := Lib.hid hS
  have HT := Lib.hid hT
  have HB := Lib.hid hB
  have HF := Lib.hid hfull
  clear hS hT hB hfull hsrc
  go_enter Tryz.func9, Tryz.ntmps9
  go_wp2_with fail
  refine hnew.mono ?_
  rintro e w1 ⟨blk, rfl, hblk, hb1⟩
  have hp := sput_c B s tb sb mb most es room last bs ks blk l _ w1 (HS.out.later hb1) (HT.out.later hb1) (HB.out.later hb1) (hblk.base hB1) hl hr HF.out h0 h1
  have HBLK := Lib.hid hblk
  clear hnew hblk
  go_wp2_with fail
  refine hp.mono ?_
  intro e w2 h2
  have HW : Hid (SCre B tb es room last most bs l q w e w2) := by
    refine ⟨blk, HBLK.out.1, ?_⟩
    unfold SPut at h2
    split at h2
    · rename_i c1
      rw [if_pos c1]
      exact ⟨HBLK.out.later h2.2, h2.1, hb1.trans (h2.2.mono hb1.size)⟩
    · rename_i c1
      rw [if_neg c1]
      split at h2
      · rename_i c2
        rw [if_pos c2]
        exact ⟨HBLK.out.later h2.2, h2.1, hb1.trans (h2.2.mono hb1.size)⟩
      · rename_i c2
        rw [if_neg c2]
        obtain ⟨e1, e2, e3, e4, e5⟩ := h2
        exact ⟨HBLK.out.ty e4 (by decide) (by decide), e1, e2, (hb1.mono hB1).trans e3, (ty_below hb1 _).trans e4, (ch_below hb1).trans e5⟩
  obtain ⟨z1, z2, he⟩ : ∃ z1 z2 : Int, e = .returned (.tuple #[.int .i64 z1, .int .i64 z2]) := by
    unfold SPut at h2
    split at h2
    · exact ⟨_, _, h2.1⟩
    · split at h2
      · exact ⟨_, _, h2.1⟩
      · exact ⟨_, _, h2.1⟩
  subst he
  clear h2 hp
  go_wp2
  go_ret2
  exact HW.out
end Go.Proofs.YtibgiohijknmbaaGreatDoor
