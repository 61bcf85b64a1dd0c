/-
  Joined texts: Once, RepN, RepR, RepW.
-/
import Derived.Test.YtibgiohijknmbaaGreatDoorM1
import Derived.Test.YtibgiohijknmbaaGreatDoorProg
import Derived.Tactics
import Derived.Tactics2
import Derived.Defers
import Derived.Laws.Pointers
import Derived.Laws.LoneSync
import Derived.RegionTactic
import Derived.RegionCalls
import Derived.ChangeAlike
import Derived.Test.YtibgiohijknmbaaGreatDoorM2
import Derived.Test.YtibgiohijknmbaaGreatDoorShelf
import Derived.Laws.CopyOwn
import Derived.Deep.RegionLaw
import Derived.Deep.QuietTactic
import Derived.BigQuiet
import Derived.IntWalk
/-
  sync.Once.Do on a fresh Once, in one goroutine: the function is called once, between a lock taken and let go (after the guide's worked example of a Once).
-/
namespace Go.Proofs.YtibgiohijknmbaaGreatDoor
open Go.RowKit
set_option linter.unusedVariables false
set_option linter.unusedSimpArgs false

theorem o_disable (w : World) : (callFunc 343 #[]).run Tryz.prog w = .ok (.value (.tuple #[])) w := run_call_mark0 Tryz.func343 (by kernel_rfl) (by kernel_rfl) (by kernel_rfl) .disable (by kernel_rfl) w
theorem o_enable (w : World) : (callFunc 345 #[]).run Tryz.prog w = .ok (.value (.tuple #[])) w := run_call_mark0 Tryz.func345 (by kernel_rfl) (by kernel_rfl) (by kernel_rfl) .enable (by kernel_rfl) w
theorem o_acquire (a : Addr) (w : World) : (callFunc 346 #[.pointer (some a)]).run Tryz.prog w = .ok (.value (.tuple #[])) w := run_call_marked Tryz.func346 (by kernel_rfl) (by kernel_rfl) (by kernel_rfl) .acquire (by kernel_rfl) a w
theorem o_merge (a : Addr) (w : World) : (callFunc 348 #[.pointer (some a)]).run Tryz.prog w = .ok (.value (.tuple #[])) w := run_call_marked Tryz.func348 (by kernel_rfl) (by kernel_rfl) (by kernel_rfl) .releaseMerge (by kernel_rfl) a w

theorem o_store (a : Addr) (x : Value) (u : FrameMode) (w : World) (hc : w.cell? a = some x) (hz : w.frozen? a = false) :
    CallsD Tryz.prog 282 #[.pointer (some a), .bool true] u w fun e u' w' => u' = u ∧ (e = .returned (.tuple #[]) ∧ w' = w.drew.setCell a (.int .u32 1)) := by
  have hc' : w.drew.cell? a = some x := by go_simp
  have hz' : w.drew.frozen? a = false := by go_simp
  have hst := run_call_store (P := Tryz.prog) Tryz.func323 (by kernel_rfl) (by kernel_rfl) (by kernel_rfl) (by kernel_rfl) (k := .u32) (y := 1) hc' hz'
  go_enter_d Tryz.func282, Tryz.ntmps282
  go_wp2
  go_region_calls
  all_goals (go_end0; exact ⟨rfl, rfl⟩)

set_option maxRecDepth 100000 in
set_option maxHeartbeats 1000000 in
theorem o_unlock (a : Addr) (u : FrameMode) (w : World) (hc : w.cell? a = some (.int .i32 1)) (hz : w.frozen? a = false) :
    CallsD Tryz.prog 281 #[.pointer (some a)] u w fun e u' w' => u' = u ∧ (e = .returned (.tuple #[]) ∧ w' = w.setCell a (.int .i32 0)) := by
  have hd := o_disable
  have he := o_enable
  have hr := o_merge
  have hadd := run_call_add (P := Tryz.prog) Tryz.func349 (by kernel_rfl) (by kernel_rfl) (by kernel_rfl) .i32 (by kernel_rfl) (y := -1) (s := 0) hc hz (by simp [go_sem]; rfl)
  have hcv := run_convert_to_unsafe (P := Tryz.prog) (src := 363) (dst := 275) Tryz.underlying363 Tryz.underlying275 (by kernel_rfl) hc
  go_enter_d Tryz.func281, Tryz.ntmps281
  go_wp2
  go_end0
  go_wp2
  go_end0
  exact ⟨rfl, rfl⟩

set_option maxRecDepth 100000 in
set_option maxHeartbeats 1000000 in
theorem o_lock (a : Addr) (w : World) (hc : w.cell? a = some (.int .i32 0)) (hz : w.frozen? a = false) :
    Calls Tryz.prog 280 #[.pointer (some a)] w fun e w' => e = .returned (.tuple #[]) ∧ w' = w.setCell a (.int .i32 1) := by
  have hd := o_disable
  have he := o_enable
  have ha := o_acquire
  have hcas := run_call_cas_hit (P := Tryz.prog) Tryz.func344 (by kernel_rfl) (by kernel_rfl) (by kernel_rfl) .i32 (by kernel_rfl) (y := 1) hc hz
  have hc' : (w.setCell a (.int .i32 1)).cell? a = some (.int .i32 1) := World.cell?_setCell_same w a _ hc
  have hcv := run_convert_to_unsafe (P := Tryz.prog) (src := 363) (dst := 275) Tryz.underlying363 Tryz.underlying275 (by kernel_rfl) hc'
  go_enter Tryz.func280, Tryz.ntmps280
  go_wp2
  first | go_end0 | (simp only [Exit.inBlock, Exit.then]; refine bodyPost_ret (results_none rfl _ _ _) rfl ?_) | refine bodyPost_ret (results_none rfl _ _ _) rfl ?_
  go_wp2
  go_end0
  exact ⟨rfl, rfl⟩

/-- What is behind a Once's block when its function has been called: the lock's and the mark's cells as they stand while it runs. -/
def OnceMid (b : Nat) (w : World) : Prop :=
  w.cell? ⟨b, 0, none⟩ = some (.int .u32 0) ∧ w.cell? ⟨b, 1, none⟩ = some (.int .i32 1) ∧ w.frozen? ⟨b, 0, none⟩ = false ∧ w.frozen? ⟨b, 1, none⟩ = false
def onceEnd (b : Nat) (w : World) : World := (w.drew.setCell ⟨b, 0, none⟩ (.int .u32 1)).setCell ⟨b, 1, none⟩ (.int .i32 0)

set_option maxRecDepth 100000 in
set_option maxHeartbeats 1600000 in
theorem o_slow (b : Nat) (fv : Value) (Q : World → Prop) (w : World) (hfv : fv = .func (.func 158) #[.pointer (some ⟨b, 0, none⟩)] #[])
    (h0 : w.cell? ⟨b, 0, none⟩ = some (.int .u32 0)) (h1 : w.cell? ⟨b, 1, none⟩ = some (.int .i32 0)) (f0 : w.frozen? ⟨b, 0, none⟩ = false) (f1 : w.frozen? ⟨b, 1, none⟩ = false)
    (hF : Calls Tryz.prog 158 #[.pointer (some ⟨b, 0, none⟩)] (w.setCell ⟨b, 1, none⟩ (.int .i32 1)) fun e w2 => e = .returned (.tuple #[]) ∧ OnceMid b w2 ∧ Q w2) :
    Calls Tryz.prog 219 #[.pointer (some ⟨b, 0, none⟩), fv] w fun e w' => e = .returned (.tuple #[]) ∧ ∃ w2, Q w2 ∧ w' = onceEnd b w2 := by
  subst hfv
  have hl := run_call_load (P := Tryz.prog) Tryz.func279 (by kernel_rfl) (by kernel_rfl) (by kernel_rfl) .u32 (by kernel_rfl) (w := w.setCell ⟨b, 1, none⟩ (.int .i32 1)) (a := ⟨b, 0, none⟩) (x := 0) ((World.cell?_setCell_other _ ⟨b, 1, none⟩ ⟨b, 0, none⟩ _ (by simp)).trans h0)
  have hnot : ∀ (x : Bool) (w : World), (Op.unary .not (.bool x)).run Tryz.prog w = .ok (.bool (!x)) w := fun _ _ => rfl
  go_enter_defers Tryz.func219, Tryz.ntmps219
  go_wp2_with (first | (go_at_call 280; refine (o_lock ⟨b, 1, none⟩ _ h1 f1).mono ?_; rintro e w' ⟨rfl, rfl⟩) | (go_at_call 158; refine hF.mono ?_; rintro e w2 ⟨rfl, ⟨m0, m1, m2, m3⟩, hq⟩) | (go_at_call 218; go_in))
  refine leaves_cons (f := 282) (args := #[.pointer (some ⟨b, 0, none⟩), .bool true]) (by simp) (by simp [go_sem]) ?_
  refine (o_store ⟨b, 0, none⟩ (.int .u32 0) .returning _ m0 m2).mono ?_
  rintro e u' w'' ⟨rfl, rfl, rfl⟩
  refine leaves_cons (f := 281) (args := #[.pointer (some ⟨b, 1, none⟩)]) (by simp [settle]) (by simp [go_sem]) ?_
  refine (o_unlock ⟨b, 1, none⟩ _ _ ?_ (by simp [m3])).mono ?_
  · exact (World.cell?_setCell_other _ ⟨b, 0, none⟩ ⟨b, 1, none⟩ _ (by simp)).trans m1
  rintro e u' w'' ⟨rfl, rfl, rfl⟩
  simp [Leaves, settle, results, Tryz.results219]
  exact ⟨w2, hq, rfl⟩

set_option maxRecDepth 100000 in
set_option maxHeartbeats 1600000 in
theorem o_do (b : Nat) (fv : Value) (Q : World → Prop) (w : World) (hfv : fv = .func (.func 158) #[.pointer (some ⟨b, 0, none⟩)] #[])
    (h0 : w.cell? ⟨b, 0, none⟩ = some (.int .u32 0)) (h1 : w.cell? ⟨b, 1, none⟩ = some (.int .i32 0)) (f0 : w.frozen? ⟨b, 0, none⟩ = false) (f1 : w.frozen? ⟨b, 1, none⟩ = false)
    (hF : Calls Tryz.prog 158 #[.pointer (some ⟨b, 0, none⟩)] (w.setCell ⟨b, 1, none⟩ (.int .i32 1)) fun e w2 => e = .returned (.tuple #[]) ∧ OnceMid b w2 ∧ Q w2) :
    Calls Tryz.prog 157 #[.pointer (some ⟨b, 0, none⟩), fv] w fun e w' => e = .returned (.tuple #[]) ∧ ∃ w2, Q w2 ∧ w' = onceEnd b w2 := by
  have hs := o_slow b fv Q w hfv h0 h1 f0 f1 hF
  have hl := run_call_load (P := Tryz.prog) Tryz.func279 (by kernel_rfl) (by kernel_rfl) (by kernel_rfl) .u32 (by kernel_rfl) (w := w) (a := ⟨b, 0, none⟩) (x := 0) h0
  have hnot : ∀ (x : Bool) (w : World), (Op.unary .not (.bool x)).run Tryz.prog w = .ok (.bool (!x)) w := fun _ _ => rfl
  clear hF hfv
  go_enter Tryz.func157, Tryz.ntmps157
  go_wp2_with (first | (go_at_call 219; refine hs.mono ?_; rintro e w' ⟨rfl, hq⟩) | (go_at_call 218; go_in))
  go_end0
  exact ⟨rfl, hq⟩
end Go.Proofs.YtibgiohijknmbaaGreatDoor

/-
  strings.NewReplacer, (*Replacer).buildOnce.
-/
namespace Go.Proofs.YtibgiohijknmbaaGreatDoor
open Go.RowKit
set_option linter.unusedVariables false
set_option linter.unusedSimpArgs false

/-- A Replacer in block R that has not been built yet. -/
def RawAt (w : World) (R : Nat) (q : Int) (ps : Pairs) : Prop :=
  ∃ g c, w.heap[R]? = some (.cells #[.int .u32 0, .int .i32 q, .int .u32 0, .nilIface, .slice (some ⟨g, 0, none⟩) (2 * ps.length) c] 234 (0, 0)) ∧ 2 * ps.length ≤ c ∧ StrsAt w g (oldnew ps) ∧ g < w.heap.size ∧ g ≠ R

theorem own_same {w w' : World} {B n : Nat} {e : TypeId} {v : Value} {xs : List Value} (h : w.ownsRow B e 1 v n xs) (hs : ∀ k, v.ownBlock = some k → w'.heap[k]? = w.heap[k]?) : w'.ownsRow B e 1 v n xs := by
  obtain ⟨h1, h2⟩ := h
  refine ⟨h1, ?_⟩
  rcases h2 with h2 | ⟨g, cap, cur, rfl, hb, hh, r⟩
  · exact .inl h2
  · exact .inr ⟨g, cap, cur, rfl, hb, (hs g rfl).trans hh, r⟩
theorem own_typed {w : World} {B n : Nat} {e : TypeId} {v : Value} {xs : List Value} (h : w.ownsRow B e 1 v n xs) (k : Nat) (hk : v.ownBlock = some k) : ∃ cells, w.heap[k]? = some (.cells cells e (0, 0)) := by
  rcases h.2 with ⟨rfl, _⟩ | ⟨g, cap, cur, rfl, hb, hh, r⟩
  · simp [Value.ownBlock] at hk
  · have : g = k := by simpa [Value.ownBlock] using hk
    subst this
    exact ⟨cur, hh⟩
theorem RepAt.move {w w' : World} {B Q : Nat} {ps : Pairs} (h : RepAt w B Q ps) (e : ∀ (k : Nat) (cells : Array Value) (T : TypeId) (fz : Nat × Nat), w.heap[k]? = some (Obj.cells cells T fz) → T ≠ 234 → w'.heap[k]? = w.heap[k]?) : RepAt w' B Q ps := by
  obtain ⟨hB, cur, vT, h1, h2, h3, h4, h5⟩ := h
  refine ⟨hB, cur, vT, (e _ _ _ _ h1 (by decide)).trans h1, h2, fun c => ?_, h4, own_same h5 fun k hk => ?_⟩
  · obtain ⟨v, hv, hr⟩ := h3 c
    exact ⟨v, hv, cell_of_block hr fun g cells fz hg => e _ _ _ _ hg (by decide)⟩
  · obtain ⟨cells, hc⟩ := own_typed h5 k hk
    exact e _ _ _ _ hc (by decide)

set_option maxRecDepth 100000 in
set_option maxHeartbeats 1000000 in
theorem newrep_c (ps : Pairs) (g c : Nat) (w : World) (hm : 1 ≤ ps.length) (hm2 : ps.length ≤ 256) (hst : StrsAt w g (oldnew ps)) (hg : g < w.heap.size) (hc : 2 * ps.length ≤ c) (hc2 : c ≤ 9223372036854775807) :
    Calls Tryz.prog 98 #[.slice (some ⟨g, 0, none⟩) (2 * ps.length) c] w fun e w' => ∃ R, e = .returned (.pointer (some ⟨R, 0, none⟩)) ∧ w.heap.size ≤ R ∧ RawAt w' R 0 ps ∧ Below w.heap.size w w' := by
  obtain ⟨i0, hi, hz0, hz1, hz2⟩ := info_parts sinfo
  have hl := oldnew_length ps
  have hmod : (2 * (ps.length : Int)) % 2 = 0 := by omega
  have hne : (((2 * (ps.length : Int)) % 2) == 1) = false := by rw [hmod]; rfl
  go_enter Tryz.func98, Tryz.ntmps98
  go_wp2_with (at_builtin; refine wpList_append_own _ rfl _ _ 39 rfl w.heap.size 9 i0 (.string ByteArray.empty) 1 16 Tryz.underlying39 hi hz0 hz1 hz2 rfl (by decide) (.slice none 0 0) 0 [] rfl ⟨rfl, .inl ⟨rfl, rfl⟩⟩ ⟨g, 0, none⟩ (2 * ps.length) c ((oldnew ps).map Value.string) rfl ?c0 ?c1 ?c2 ?c3 ?c4 ?c5 ?_)
  case c0 => rw [List.length_map, hl]; omega
  case c1 =>
    intro j u hj
    rw [List.getElem?_map] at hj
    obtain ⟨s, hs, rfl⟩ := Option.map_eq_some_iff.1 hj
    have hjl : j < (oldnew ps).length := (List.getElem?_eq_some_iff.1 hs).1
    rw [addr_add0, hst j hjl, List.getD_eq_getElem?_getD, hs]
    rfl
  case c2 => intro u hu; obtain ⟨s, _, rfl⟩ := List.mem_map.1 hu; rfl
  case c3 => unfold maxLen; omega
  case c4 => omega
  case c5 => omega
  intro v' w2 hown hgr _
  obtain ⟨g', c', cur, rfl, hb', hh', hn', hm', hs', ht'⟩ : ∃ g cap cur, v' = .slice (some ⟨g, 0, none⟩) (2 * ps.length) cap ∧ w.heap.size ≤ g ∧ w2.heap[g]? = some (.cells cur 9 (0, 0)) ∧ 2 * ps.length ≤ cap ∧ cap ≤ maxLen ∧ cur.size = cap * 1 ∧ cur.toList.take (2 * ps.length * 1) = (oldnew ps).map Value.string := by
    rcases hown.2 with ⟨_, h0⟩ | h
    · omega
    · simpa using h
  have hst2 : StrsAt w2 g' (oldnew ps) := fun j hj => by
    have h := hown.cells (g := g') rfl j (.string ((oldnew ps).getD j ByteArray.empty)) (by rw [List.getElem?_map, List.getElem?_eq_getElem hj, List.getD_eq_getElem?_getD, List.getElem?_eq_getElem hj]; rfl)
    rwa [addr_add0] at h
  have hgl : g' < w2.heap.size := (Array.getElem?_eq_some_iff.1 hh').1
  clear hown hh' ht' hs'
  go_wp2
  go_ret
  refine ⟨w2.heap.size, rfl, hgr.size, ⟨g', c', heap_last _ _, hn', fun j hj => ?_, by simp; omega, by omega⟩, ((Below.refl _ _).grown hgr (Nat.le_refl _) (by simp [Value.ownBlock])).alloc hgr.size _⟩
  rw [World.cell?_alloc_past _ _ _ hgl]
  exact hst2 j hj

set_option maxRecDepth 100000 in
set_option maxHeartbeats 1000000 in
theorem buildonce_c (ps : Pairs) (R : Nat) (w : World) (hm : 2 ≤ ps.length) (hm2 : ps.length ≤ 256) (hnot : ∃ i, i < ps.length ∧ (ps.getD i (0, [])).2.length ≠ 1) (hnd : (ps.map (·.1)).Nodup) (hlong : ∀ p ∈ ps, p.2.length ≤ 1000) (h : RawAt w R 1 ps) :
    Calls Tryz.prog 158 #[.pointer (some ⟨R, 0, none⟩)] w fun e w' => e = .returned (.tuple #[]) ∧ ∃ Q, w'.heap[R]? = some (.cells #[.int .u32 0, .int .i32 1, .int .u32 0, .iface 306 (.pointer (some ⟨Q, 0, none⟩)), .slice none 0 0] 234 (0, 0)) ∧ RepAt w' w.heap.size Q ps ∧ w.grownBy w' (some R) := by
  obtain ⟨g, c, hR, hc, hst, hg, hgR⟩ := h
  have hRlt : R < w.heap.size := (Array.getElem?_eq_some_iff.1 hR).1
  have hc4 : w.cell? ⟨R, 4, none⟩ = some (.slice (some ⟨g, 0, none⟩) (2 * ps.length) c) := by rw [Lib.cell_of_heap hR]; rfl
  have hb := rep_build ps R g c ps.length w rfl hm hm2 hc hc4 hst hg hnot hnd hlong
  clear hc4
  go_enter Tryz.func158, Tryz.ntmps158
  go_wp2_with (go_at_call 220; refine hb.mono ?_)
  rintro e w1 ⟨Q, rfl, hrep, hbl⟩
  have hR1 : w1.heap[R]? = some (.cells #[.int .u32 0, .int .i32 1, .int .u32 0, .nilIface, .slice (some ⟨g, 0, none⟩) (2 * ps.length) c] 234 (0, 0)) := (hbl.block R hRlt).trans hR
  have c3 : w1.cell? ⟨R, 3, none⟩ = some .nilIface := by rw [Lib.cell_of_heap hR1]; rfl
  have c4 : w1.cell? ⟨R, 4, none⟩ = some (.slice (some ⟨g, 0, none⟩) (2 * ps.length) c) := by rw [Lib.cell_of_heap hR1]; rfl
  have f3 : w1.frozen? ⟨R, 3, none⟩ = false := Lib.frozen_of_heap hR1 3
  have f4 : w1.frozen? ⟨R, 4, none⟩ = false := Lib.frozen_of_heap hR1 4
  go_wp2
  go_end0
  refine ⟨rfl, Q, ?_, ?_, ?_⟩
  · have := heap_setCell_same _ R 4 _ 234 (.slice none 0 0) (heap_setCell_same w1 R 3 _ 234 (.iface 306 (.pointer (some ⟨Q, 0, none⟩))) hR1)
    simpa using this
  · refine hrep.move fun k cells T fz hk hT => ?_
    have hkR : k ≠ R := by
      rintro rfl
      rw [hR1] at hk
      injection hk with hk
      injection hk with _ ht
      exact hT ht.symm
    rw [heap_setCell_other _ _ _ _ hkR, heap_setCell_other _ _ _ _ hkR]
  · refine ⟨hbl.os, hbl.tape, hbl.output, by rw [World.size_setCell, World.size_setCell]; exact hbl.size, fun k hk hne => ?_⟩
    have hkR : k ≠ R := fun h => hne (by rw [h])
    rw [heap_setCell_other _ _ _ _ hkR, heap_setCell_other _ _ _ _ hkR]
    exact hbl.block k hk
end Go.Proofs.YtibgiohijknmbaaGreatDoor

/-
  (*byteStringReplacer).Replace.
-/
namespace Go.Proofs.YtibgiohijknmbaaGreatDoor
open Go.RowKit
set_option linter.unusedVariables false
set_option linter.unusedSimpArgs false

/-- What a replacer's table gives to a walk: byte by byte. -/
theorem RepAt.cell {w : World} {B Q : Nat} {ps : Pairs} (h : RepAt w B Q ps) (c : UInt8) : ∃ v, w.cell? ⟨Q, c.toNat, none⟩ = some v ∧ RepCell w v (look ps c) := by
  obtain ⟨hB, cur, vT, h1, h2, h3, h4, h5⟩ := h
  obtain ⟨v, hv, hr⟩ := h3 c
  exact ⟨v, by rw [Lib.cell_of_heap h1, hv], hr⟩
theorem RepAt.olds {w : World} {B Q : Nat} {ps : Pairs} (h : RepAt w B Q ps) (hp : ps ≠ []) : ∃ g cap, w.cell? ⟨Q, 256, none⟩ = some (.slice (some ⟨g, 0, none⟩) ps.length cap) ∧ ps.length ≤ cap ∧ ∀ j, j < ps.length → w.cell? ⟨g, j, none⟩ = some (.string ⟨#[(ps.reverse.getD j (0, [])).1]⟩) := by
  obtain ⟨hB, cur, vT, h1, h2, h3, h4, h5⟩ := h
  have h5' := h5
  have hl : 0 < ps.length := by cases ps with | nil => exact absurd rfl hp | cons _ _ => simp
  rcases h5.2 with ⟨_, h0⟩ | ⟨g, cap, cu, rfl, hb, hh, hn, _⟩
  · omega
  · refine ⟨g, cap, by rw [Lib.cell_of_heap h1, h4], hn, fun j hj => ?_⟩
    have h := h5'.cells (g := g) rfl j (.string ⟨#[(ps.reverse.getD j (0, [])).1]⟩) (by
      unfold oldsV
      rw [List.getElem?_map, List.getD_eq_getElem?_getD, List.getElem?_eq_getElem (by simpa using hj)]
      rfl)
    rwa [addr_add0] at h

theorem look_mem (ps : Pairs) (h : (ps.map (·.1)).Nodup) (p : UInt8 × List UInt8) (hp : p ∈ ps) : look ps p.1 = some p.2 := by
  induction ps with
  | nil => simp at hp
  | cons q t ih =>
    rw [List.map_cons, List.nodup_cons] at h
    rcases List.mem_cons.1 hp with rfl | hp
    · simp [look]
    · have hne : q.1 ≠ p.1 := fun e => h.1 (List.mem_map.2 ⟨p, hp, e.symm⟩)
      have := ih h.2 hp
      unfold look at this ⊢
      rw [List.find?_cons_of_neg (by simpa using hne)]
      exact this
theorem RepAt.below {w w' : World} {B Q : Nat} {ps : Pairs} (h : RepAt w B Q ps) (hb : Below w.heap.size w w') : RepAt w' B Q ps :=
  h.move fun k cells T fz hk _ => hb.block k (Array.getElem?_eq_some_iff.1 hk).1
theorem drewN_below (w : World) (n : Nat) : Below w.heap.size w (w.drewN n) := ⟨rfl, rfl, rfl, Nat.le_refl _, fun _ _ => rfl⟩

theorem take_splice (dst cs : List Value) (J : Nat) (h : J ≤ dst.length) : (splice dst J cs).take (J + cs.length) = dst.take J ++ cs := by
  have hl : (dst.take J).length = J := by rw [List.length_take]; omega
  unfold splice
  rw [← List.append_assoc, List.take_append_of_le_length (by rw [List.length_append]; omega), List.take_of_length_le (by rw [List.length_append]; omega)]

set_option maxRecDepth 100000 in
set_option maxHeartbeats 4000000 in
theorem replace_c (ps : Pairs) (B Q : Nat) (s : ByteArray) (w : World) (hp : ps ≠ []) (hp2 : ps.length ≤ 256) (hnd : (ps.map (·.1)).Nodup) (hlong : ∀ p ∈ ps, p.2.length ≤ 1000) (hs : s.size ≤ 4294967296) (h : RepAt w B Q ps) :
    Calls Tryz.prog 421 #[.pointer (some ⟨Q, 0, none⟩), .string s] w fun e w' => e = .returned (.string ⟨(repL ps s.data.toList).toArray⟩) ∧ Below w.heap.size w w' := by
  obtain ⟨gT, cT, hcT, hcT2, hcT3⟩ := h.olds hp
  have HT : Hid (∀ j, j < ps.length → w.cell? ⟨gT, j, none⟩ = some (.string ⟨#[(ps.reverse.getD j (0, [])).1]⟩)) := hcT3
  have HR : Hid (RepAt w B Q ps) := h
  have HL : Hid (∀ p ∈ ps, p.2.length ≤ 1000) := hlong
  have HN : Hid ((ps.map (·.1)).Nodup) := hnd
  have hl : 0 < ps.length := by cases ps with | nil => exact absurd rfl hp | cons _ _ => simp
  clear hcT3 h hlong hnd hp
  by_cases hA : ps.length * 8 ≤ s.size
  · have hA' : (ps.length : Int) * 8 ≤ (s.size : Int) := by omega
    go_enter Tryz.func421, Tryz.ntmps421
    go_wp2
    go_loopw [5, 6, 32] (fun ns any iv wr => ∃ i : Nat, i ≤ ps.length ∧ iv = .int .i64 i ∧ ns = .int .i64 ((s.size : Int) + gsum (ps.reverse.take i) s.data.toList) ∧ any = .bool (gany (ps.reverse.take i) s.data.toList) ∧ ∃ n, wr = w.drewN n) (fun _ _ iv _ => ps.length - (intOf iv).toNat)
    case atStart => exact ⟨0, Nat.zero_le _, rfl, by simp [gsum], by simp [gany], 0, rfl⟩
    case round =>
      obtain ⟨i, hi, rfl, rfl, rfl, n, rfl⟩ := hrel
      by_cases hlt : i < ps.length
      · have hmem : ps.reverse.getD i (0, []) ∈ ps := by
          rw [← List.mem_reverse, List.getD_eq_getElem?_getD, List.getElem?_eq_getElem (by simpa using hlt)]
          exact List.getElem_mem _
        have hts : ps.reverse.take (i + 1) = ps.reverse.take i ++ [ps.reverse.getD i (0, [])] := by
          rw [List.take_succ_eq_append_getElem (by simpa using hlt), List.getD_eq_getElem?_getD, List.getElem?_eq_getElem (by simpa using hlt)]
          rfl
        have hx := HT.out i hlt
        have hn := HL.out _ hmem
        have hlk := look_mem ps HN.out _ hmem
        have hgb := gsum_bound (ps.reverse.take i) s.data.toList (by rw [← Lib.size_eq]; exact hs) (fun p hp => HL.out p (List.mem_reverse.1 (List.mem_of_mem_take hp)))
        have hgl : (ps.reverse.take i).length ≤ 256 := by rw [List.length_take, List.length_reverse]; omega
        have HG : Hid (gsum (ps.reverse.take (i + 1)) s.data.toList = gsum (ps.reverse.take i) s.data.toList + ((s.data.toList.count (ps.reverse.getD i (0, [])).1 : Nat) : Int) * (((ps.reverse.getD i (0, [])).2.length : Int) - 1)) := by show _ = _; rw [hts, gsum_snoc]
        have HA : Hid (gany (ps.reverse.take (i + 1)) s.data.toList = (gany (ps.reverse.take i) s.data.toList || (s.data.toList.count (ps.reverse.getD i (0, [])).1 != 0))) := by show _ = _; rw [hts, gany_snoc]
        have hcl := List.count_le_length (a := (ps.reverse.getD i (0, [])).1) (l := s.data.toList)
        rw [← Lib.size_eq] at hcl
        clear hts hmem
        generalize gsum (ps.reverse.take i) s.data.toList = gs at *
        generalize gany (ps.reverse.take i) s.data.toList = ga at *
        generalize (ps.reverse.take i).length = lt at *
        generalize ps.reverse.getD i (0, []) = p at *
        obtain ⟨o, nn⟩ := p
        dsimp only at hx hn hlk hcl HG HA
        obtain ⟨v, hcv, hrc⟩ := HR.out.cell o
        rw [hlk] at hrc
        obtain ⟨gv, capv, rfl, hv1, hv2, _, _⟩ := hrc
        clear hlk
        have hC : Calls Tryz.prog 182 #[.string s, .string ⟨#[o]⟩] (w.drewN n) fun e w' => e = .returned (.int .i64 (s.data.toList.count o)) ∧ w' = w.drewN n := Tryz.strings_Count_one s o _
        have hmb := mul_bound ((s.data.toList.count o : Nat) : Int) ((nn.length : Int) - 1) 4294967296 (by omega) (by omega) (by omega) (by omega)
        generalize s.data.toList.count o = cnt at *
        by_cases hc0 : cnt = 0
        · subst hc0
          go_wp2_with (go_at_call 182; refine hC.mono ?_; rintro e w' ⟨rfl, rfl⟩)
          have eG : gsum (ps.reverse.take (i + 1)) s.data.toList = gs := by rw [HG.out]; simp
          have eA : gany (ps.reverse.take (i + 1)) s.data.toList = ga := by rw [HA.out]; simp
          exact ⟨⟨i + 1, by omega, by go_num, by rw [eG], by rw [eA], n, rfl⟩, by simp [intOf]; omega⟩
        · have hcb : ((cnt : Int) != 0) = true := by simp; omega
          have hget : ∀ h : 0 < (⟨#[o]⟩ : ByteArray).size, (⟨#[o]⟩ : ByteArray)[0]'h = o := fun _ => rfl
          have ho := o.toNat_lt
          have e2 : IntKind.i64.wrap ((cnt : Int) * ((nn.length : Int) - 1)) = (cnt : Int) * ((nn.length : Int) - 1) := by rw [IntKind.wrap_i64]; omega
          have e3 : IntKind.i64.wrap ((s.size : Int) + gs + (cnt : Int) * ((nn.length : Int) - 1)) = (s.size : Int) + gs + (cnt : Int) * ((nn.length : Int) - 1) := by rw [IntKind.wrap_i64]; omega
          go_wp2_with (go_at_call 182; refine hC.mono ?_; rintro e w' ⟨rfl, rfl⟩)
          go_quiet (fail)
          go_wp2
          have eA : gany (ps.reverse.take (i + 1)) s.data.toList = true := by
            rw [HA.out, Bool.or_eq_true]
            exact .inr (bne_iff_ne.2 hc0)
          exact ⟨⟨i + 1, by omega, by go_num, by rw [HG.out, Int.add_assoc], by rw [eA], n + nq, rfl⟩, by simp [intOf]; omega⟩
      · obtain rfl : i = ps.length := by omega
        have e1 : gsum (ps.reverse.take ps.length) s.data.toList = gain ps s.data.toList := by
          rw [List.take_of_length_le (by simp), gsum_reverse, gain_gsum ps HN.out]
        have e2 : gany (ps.reverse.take ps.length) s.data.toList = chg ps s.data.toList := by
          rw [List.take_of_length_le (by simp), gany_reverse, chg_gany]
        have hlt' : ¬ ((ps.length : Int) < (ps.length : Int)) := by omega
        rw [e1, e2]
        clear e1 e2 hlt hi
        have hb0 := drewN_below w n
        generalize w.drewN n = W0 at *
        cases hch : chg ps s.data.toList with
        | false =>
          have HO : Hid (repL ps s.data.toList = s.data.toList) := chg_false ps _ hch
          clear hch
          go_wp2
          go_ret
          exact ⟨ret_s (by rw [HO.out]), hb0⟩
        | true =>
          obtain ⟨N, hN⟩ : ∃ N, (repL ps s.data.toList).length = N := ⟨_, rfl⟩
          have hNle := repL_le ps HL.out s.data.toList
          rw [hN, ← Lib.size_eq] at hNle
          have e3 : (s.size : Int) + gain ps s.data.toList = (N : Int) := by
            unfold gain
            rw [hN, ← Lib.size_eq]
            omega
          rw [e3]
          have HNN : Hid ((repL ps s.data.toList).length = N) := hN
          clear e3 hN hch
          obtain ⟨i0, hi0, hz0, hz1, hz2⟩ := info_parts binfo
          obtain ⟨W2, hmk, hownF, hgrF⟩ := run_make_full (P := Tryz.prog) W0 w.heap.size 29 5 i0 (.int .u8 0) 1 Tryz.underlying29 hi0 hz0 hz1 .i64 .i64 N (by rw [hz2]; omega) (by unfold maxLen; omega) hb0.size
          obtain ⟨dst0, hd0, hd0l, hBfb⟩ : ∃ dst : List Value, W2.heap[W0.heap.size]? = some (.cells dst.toArray 5 (0, 0)) ∧ dst.length = N ∧ w.heap.size ≤ W0.heap.size := by
            rcases hownF.2 with ⟨h, _⟩ | ⟨g, cap, cur, hv, hb, hh, _, _, hs, _⟩
            · simp at h
            · simp only [Value.slice.injEq, Option.some.injEq, Addr.mk.injEq] at hv
              obtain ⟨⟨rfl, _⟩, _, rfl⟩ := hv
              exact ⟨cur.toList, by simpa using hh, by simpa using hs, hb⟩
          have hb2 : Below w.heap.size w W2 := hb0.grown hgrF hb0.size (by simp)
          have H0 : Hid (W2.heap[W0.heap.size]? = some (.cells dst0.toArray 5 (0, 0))) := hd0
          clear hd0 hownF hgrF
          go_wp2
          clear hmk
          go_loopw [13, 14] (fun jv iv wr => ∃ (k : Nat) (dst : List Value), k ≤ s.size ∧ iv = .int .i64 k ∧ jv = .int .i64 (((repL ps (s.data.toList.take k)).length : Nat) : Int) ∧ Hid (wr.heap[W0.heap.size]? = some (.cells dst.toArray 5 (0, 0))) ∧ dst.length = N ∧ Hid (dst.take (repL ps (s.data.toList.take k)).length = byteV (repL ps (s.data.toList.take k))) ∧ Below w.heap.size w wr) (fun _ iv _ => s.size - (intOf iv).toNat)
          case atStart => exact ⟨0, dst0, Nat.zero_le _, rfl, by simp [repL], H0, hd0l, by show _ = _; simp [repL, byteV], hb2⟩
          case round =>
            obtain ⟨k, dst, hk, rfl, rfl, hheap, hdl, hdt, hbl⟩ := hrel
            clear H0 hb2 hd0l
            by_cases hlt : k < s.size
            · have hlt2 : k < s.data.toList.length := by rw [← Lib.size_eq]; exact hlt
              have hts : s.data.toList.take (k + 1) = s.data.toList.take k ++ [s[k]'hlt] := by
                rw [List.take_succ_eq_append_getElem hlt2]
                rfl
              have HREP : Hid (repL ps (s.data.toList.take (k + 1)) = repL ps (s.data.toList.take k) ++ rep1 ps (s[k]'hlt)) := by show _ = _; rw [hts, repL_append, repL_one]
              have hle := repL_take_le ps s.data.toList k hlt2
              have hgk : s.data.toList.getD k 0 = s[k]'hlt := by
                rw [List.getD_eq_getElem?_getD, List.getElem?_eq_getElem hlt2]
                rfl
              rw [HNN.out, hgk] at hle
              obtain ⟨v, hcv0, hrc⟩ := HR.out.cell (s[k]'hlt)
              have hQlt : Q < w.heap.size := by
                obtain ⟨_, cur, vT, h1, _⟩ := HR.out
                exact (Array.getElem?_eq_some_iff.1 h1).1
              have hcv : wr.cell? ⟨Q, (s[k]'hlt).toNat, none⟩ = some v := (hbl.cell (p := ⟨Q, (s[k]'hlt).toNat, none⟩) hQlt).trans hcv0
              have hx := (s[k]'hlt).toNat_lt
              have hneq := fun (W : World) (a : Option Addr) (n c : Nat) => run_neq_slice_nil_any (P := Tryz.prog) W 29 5 a n c 0 0 Tryz.underlying29
              clear hts hgk hcv0
              generalize repL ps (s.data.toList.take k) = done at *
              cases hlk : look ps (s[k]'hlt) with
              | none =>
                have hr1 : rep1 ps (s[k]'hlt) = [s[k]'hlt] := by unfold rep1; rw [hlk]; rfl
                rw [hlk] at hrc
                rw [hr1] at hle
                have HR1 : Hid (repL ps (s.data.toList.take (k + 1)) = done ++ [s[k]'hlt]) := by show _ = _; rw [HREP.out, hr1]
                have hv : v = .slice none 0 0 := hrc
                subst hv
                have hj : done.length < dst.length := by rw [hdl]; simp at hle; omega
                have hj2 : done.length < N := by omega
                have d1 : wr.cell? ⟨W0.heap.size, done.length, none⟩ = some dst[done.length] := by
                  rw [Lib.cell_of_heap hheap.out]
                  simp [hj]
                have d2 : wr.frozen? ⟨W0.heap.size, done.length, none⟩ = false := Lib.frozen_of_heap hheap.out _
                have hle2 : (done.length : Int) + 1 ≤ N := by omega
                generalize dst[done.length] = vold at d1
                clear hlk hr1 hrc hle HREP
                go_wp2
                refine ⟨⟨k + 1, dst.set done.length (.int .u8 ((s[k]'hlt).toNat : Int)), by omega, by go_num, ?_, ?_, by rw [List.length_set]; exact hdl, ?_, hbl.setCell (p := ⟨W0.heap.size, done.length, none⟩) hBfb _⟩, by simp [intOf]; omega⟩
                · rw [HR1.out]
                  simp
                · have := heap_setCell_same wr W0.heap.size done.length _ _ (.int .u8 ((s[k]'hlt).toNat : Int)) hheap.out
                  show _ = _
                  rw [this]
                  simp
                · show _ = _
                  rw [HR1.out, List.length_append, List.length_singleton, take_set_snoc _ _ _ hj, hdt.out]
                  simp [byteV]
              | some nn =>
                have hr1 : rep1 ps (s[k]'hlt) = nn := by unfold rep1; rw [hlk]; rfl
                have hnl := look_long ps _ nn HL.out hlk
                rw [hlk] at hrc
                rw [hr1] at hle
                have HR1 : Hid (repL ps (s.data.toList.take (k + 1)) = done ++ nn) := by show _ = _; rw [HREP.out, hr1]
                obtain ⟨gv, capv, hv, hv1, hv2, hby, cells, fz, hgc⟩ := hrc
                subst hv
                have hgvlt := (Array.getElem?_eq_some_iff.1 hgc).1
                have HBY : Hid (∀ j v, (byteV nn)[j]? = some v → wr.cell? ((⟨gv, 0, none⟩ : Addr).add j) = some v) := fun j v hj => by
                  rw [addr_add0, hbl.cell (p := ⟨gv, j, none⟩) hgvlt]
                  have hjl : j < nn.length := by
                    have := (List.getElem?_eq_some_iff.1 hj).1
                    simpa [byteV] using this
                  have := hby j hjl
                  rw [Nat.zero_add] at this
                  rw [this, ← hj]
                  simp [byteV, hjl, List.getD_eq_getElem?_getD]
                have hsz1 : (Tryz.prog.info? 5).map (·.size) = some 1 := by kernel_rfl
                clear hlk hr1 HREP hby hgc
                have hj2 : done.length ≤ N := by omega
                have hle2 : (done.length : Int) + nn.length ≤ N := by omega
                by_cases hJN : N = done.length
                · subst hJN
                  obtain rfl : nn = [] := List.length_eq_zero_iff.1 (by omega)
                  have hx8 : ((s[k]'hlt).toNat : Int) < 256 := by omega
                  have hx0 : (0 : Int) ≤ ((s[k]'hlt).toNat : Int) := by omega
                  have hmin : Hid (([] : List Value).length = Nat.min 0 0) := rfl
                  have hfit : Hid (done.length + ([] : List Value).length ≤ dst.length) := by show _ ≤ _; rw [hdl]; exact Nat.le_refl _
                  have hone : Hid (∀ v ∈ ([] : List Value), v.oneCell' = true) := fun v hv => by simp at hv
                  have hno : Hid (0 < ([] : List Value).length → (some (⟨W0.heap.size, 0, none⟩ : Addr)) = some ⟨W0.heap.size, done.length, none⟩ ∧ ∃ ad, (some (⟨gv, 0, none⟩ : Addr)) = some ad ∧ ∀ j v, ([] : List Value)[j]? = some v → wr.drew.cell? (ad.add j) = some v) := fun h => by simp at h
                  have hbd : Below w.heap.size w wr.drew := hbl.drew
                  go_wp2
                  go_region_law (refine step_copy_splice rfl (.tmp 105) (.tmp 111) 29 29 rfl 5 Tryz.underlying29 hsz1 (some ⟨W0.heap.size, 0, none⟩) (some ⟨gv, 0, none⟩) 0 0 0 capv (by simp [Act.eval, Act.put]) (by simp [Act.eval, Act.put]) W0.heap.size done.length dst 5 hheap.out [] hmin.out hno.out hfit.out hone.out w.heap.size w hbd hBfb ?_; intro w5 hh5 hb5)
                  all_goals
                    clear hheap hbl hbd HBY hno
                    go_wp2
                    refine ⟨⟨k + 1, splice dst done.length [], by omega, by go_num, ?_, hh5, ?_, ?_, hb5⟩, by simp [intOf]; try omega⟩
                    · rw [HR1.out, List.append_nil]
                    · rw [length_splice _ _ _ hfit.out]
                      exact hdl
                    · show _ = _
                      have h := take_splice dst [] done.length (by have := hfit.out; simpa using this)
                      rw [HR1.out, List.append_nil]
                      simpa [hdt.out] using h
                · have hx8 : ((s[k]'hlt).toNat : Int) < 256 := by omega
                  have hx0 : (0 : Int) ≤ ((s[k]'hlt).toNat : Int) := by omega
                  have hmin : Hid ((byteV nn).length = Nat.min nn.length (N - done.length)) := by show _ = _; rw [byteV_length]; exact (Nat.min_eq_left (by omega)).symm
                  have hfit : Hid (done.length + (byteV nn).length ≤ dst.length) := by show _ ≤ _; rw [byteV_length, hdl]; omega
                  have hone : Hid (∀ v ∈ byteV nn, v.oneCell' = true) := fun v hv => by obtain ⟨b, _, rfl⟩ := List.mem_map.1 hv; rfl
                  have HBYd : Hid (∀ j v, (byteV nn)[j]? = some v → wr.drew.cell? ((⟨gv, 0, none⟩ : Addr).add j) = some v) := fun j v hj => by rw [World.cell?_drew]; exact HBY.out j v hj
                  have hbd : Below w.heap.size w wr.drew := hbl.drew
                  go_wp2
                  go_region_law (refine step_copy_splice rfl (.tmp 105) (.tmp 111) 29 29 rfl 5 Tryz.underlying29 hsz1 (some ⟨W0.heap.size, done.length, none⟩) (some ⟨gv, 0, none⟩) (N - done.length) (N - done.length) nn.length capv (by simp [Act.eval, Act.put]) (by simp [Act.eval, Act.put]) W0.heap.size done.length dst 5 hheap.out (byteV nn) hmin.out (fun _ => ⟨rfl, _, rfl, HBYd.out⟩) hfit.out hone.out w.heap.size w hbd hBfb ?_; intro w5 hh5 hb5)
                  all_goals
                    clear hheap hbl hbd HBY HBYd
                    go_wp2
                    refine ⟨⟨k + 1, splice dst done.length (byteV nn), by omega, by go_num, ?_, hh5, ?_, ?_, hb5⟩, by simp [intOf]; omega⟩
                    · rw [HR1.out, byteV_length, List.length_append]
                      congr 1
                      unfold wrap64
                      omega
                    · rw [length_splice _ _ _ hfit.out]
                      exact hdl
                    · show _ = _
                      rw [HR1.out, List.length_append, ← byteV_length nn, take_splice _ _ _ (by have := hfit.out; omega), hdt.out, byteV_append]
            · obtain rfl : k = s.size := by omega
              have e0 : s.data.toList.take s.size = s.data.toList := by rw [Lib.size_eq, List.take_length]
              rw [e0] at hdt ⊢
              have hfull : dst = byteV (repL ps s.data.toList) := by
                have := hdt.out
                rw [HNN.out, List.take_of_length_le (by omega)] at this
                exact this
              have hcv := fun cap => run_convert_bytes_arg (P := Tryz.prog) wr 29 5 Tryz.underlying29 Tryz.underlying5 W0.heap.size 0 N cap ((repL ps s.data.toList).map fun b => ((b.toNat : Nat) : Int)) (by rw [List.length_map]; exact HNN.out) (fun i hi => by
                rw [Nat.zero_add, Lib.cell_of_heap hheap.out, hfull]
                have hi' : i < (repL ps s.data.toList).length := by rw [HNN.out]; exact hi
                simp [byteV, hi', List.getD_eq_getElem?_getD]) 9 Tryz.underlying9
              rw [strOfNums_bytes] at hcv
              have hlt' : ¬ ((s.size : Int) < (s.size : Int)) := by omega
              clear hlt hk e0 hfull hdt hdl
              go_wp2
              go_ret
              exact ⟨rfl, hbl⟩
  · have hA' : ¬ ((ps.length : Int) * 8 ≤ (s.size : Int)) := by omega
    go_enter Tryz.func421, Tryz.ntmps421
    go_wp2
    go_loop [5, 6, 10] (fun ns any iv => ∃ i : Nat, i ≤ s.size ∧ iv = .int .i64 i ∧ ns = .int .i64 ((s.size : Int) + gain ps (s.data.toList.take i)) ∧ any = .bool (chg ps (s.data.toList.take i))) (fun _ _ iv => s.size - (intOf iv).toNat)
    case atStart => exact ⟨0, Nat.zero_le _, rfl, by simp [gain, repL], by simp [chg]⟩
    case round =>
      obtain ⟨i, hi, rfl, rfl, rfl⟩ := hrel
      by_cases hlt : i < s.size
      · have hlt2 : i < s.data.toList.length := by rw [← Lib.size_eq]; exact hlt
        have hts : s.data.toList.take (i + 1) = s.data.toList.take i ++ [(s[i]'hlt)] := by
          rw [List.take_succ_eq_append_getElem hlt2]
          rfl
        have HG : Hid (gain ps (s.data.toList.take (i + 1)) = gain ps (s.data.toList.take i) + (((rep1 ps (s[i]'hlt)).length : Int) - 1)) := by show _ = _; rw [hts, gain_snoc]
        have HA : Hid (chg ps (s.data.toList.take (i + 1)) = (chg ps (s.data.toList.take i) || (look ps (s[i]'hlt)).isSome)) := by show _ = _; rw [hts, chg_snoc]
        have hrl := repL_le ps HL.out (s.data.toList.take i)
        have hgd : gain ps (s.data.toList.take i) = ((repL ps (s.data.toList.take i)).length : Int) - ((s.data.toList.take i).length : Int) := rfl
        have hlen : (s.data.toList.take i).length = i := by rw [List.length_take]; omega
        rw [hlen] at hrl hgd
        have hgb : -(i : Int) ≤ gain ps (s.data.toList.take i) ∧ gain ps (s.data.toList.take i) ≤ 999 * (i : Int) := by omega
        clear hts hrl hgd hlen hlt2
        obtain ⟨v, hcv, hrc⟩ := HR.out.cell (s[i]'hlt)
        have hneq := fun (W : World) (a : Option Addr) (n c : Nat) => run_neq_slice_nil_any (P := Tryz.prog) W 29 5 a n c 0 0 Tryz.underlying29
        have hx := (s[i]'hlt).toNat_lt
        generalize gain ps (s.data.toList.take i) = gs at *
        generalize chg ps (s.data.toList.take i) = ga at *
        cases hlk : look ps (s[i]'hlt) with
        | none =>
          rw [hlk] at hrc HA
          have eG : gain ps (s.data.toList.take (i + 1)) = gs := by
            rw [HG.out]
            have : (rep1 ps (s[i]'hlt)).length = 1 := by unfold rep1; rw [hlk]; rfl
            omega
          have HG2 : Hid (gain ps (s.data.toList.take (i + 1)) = gs) := eG
          have hrc' : v = .slice none 0 0 := hrc
          subst hrc'
          clear hlk eG hrc HG
          go_wp2
          exact ⟨⟨i + 1, by omega, by go_num, by rw [HG2.out], by rw [HA.out]; simp⟩, by simp [intOf]; omega⟩
        | some nn =>
          rw [hlk] at hrc HA
          have hnl := look_long ps _ nn HL.out hlk
          have eG : gain ps (s.data.toList.take (i + 1)) = gs + ((nn.length : Int) - 1) := by
            rw [HG.out]
            have : (rep1 ps (s[i]'hlt)).length = nn.length := by unfold rep1; rw [hlk]; rfl
            omega
          have HG2 : Hid (gain ps (s.data.toList.take (i + 1)) = gs + ((nn.length : Int) - 1)) := eG
          obtain ⟨gv, capv, hv, hv1, hv2, _, _⟩ := hrc
          subst hv
          clear hlk eG HG
          go_wp2
          exact ⟨⟨i + 1, by omega, by go_num, by rw [HG2.out, Int.add_assoc], by rw [HA.out]; simp⟩, by simp [intOf]; omega⟩
      · obtain rfl : i = s.size := by omega
        have e0 : s.data.toList.take s.size = s.data.toList := by rw [Lib.size_eq, List.take_length]
        have hlt' : ¬ ((s.size : Int) < (s.size : Int)) := by omega
        rw [e0]
        clear e0 hlt hi
        have hb0 := Below.refl w.heap.size w
        cases hch : chg ps s.data.toList with
        | false =>
          have HO : Hid (repL ps s.data.toList = s.data.toList) := chg_false ps _ hch
          clear hch
          go_wp2
          go_ret
          exact ⟨ret_s (by rw [HO.out]), hb0⟩
        | true =>
          obtain ⟨N, hN⟩ : ∃ N, (repL ps s.data.toList).length = N := ⟨_, rfl⟩
          have hNle := repL_le ps HL.out s.data.toList
          rw [hN, ← Lib.size_eq] at hNle
          have e3 : (s.size : Int) + gain ps s.data.toList = (N : Int) := by
            unfold gain
            rw [hN, ← Lib.size_eq]
            omega
          rw [e3]
          have HNN : Hid ((repL ps s.data.toList).length = N) := hN
          clear e3 hN hch
          obtain ⟨i0, hi0, hz0, hz1, hz2⟩ := info_parts binfo
          obtain ⟨W2, hmk, hownF, hgrF⟩ := run_make_full (P := Tryz.prog) w w.heap.size 29 5 i0 (.int .u8 0) 1 Tryz.underlying29 hi0 hz0 hz1 .i64 .i64 N (by rw [hz2]; omega) (by unfold maxLen; omega) hb0.size
          obtain ⟨dst0, hd0, hd0l, hBfb⟩ : ∃ dst : List Value, W2.heap[w.heap.size]? = some (.cells dst.toArray 5 (0, 0)) ∧ dst.length = N ∧ w.heap.size ≤ w.heap.size := by
            rcases hownF.2 with ⟨h, _⟩ | ⟨g, cap, cur, hv, hb, hh, _, _, hs, _⟩
            · simp at h
            · simp only [Value.slice.injEq, Option.some.injEq, Addr.mk.injEq] at hv
              obtain ⟨⟨rfl, _⟩, _, rfl⟩ := hv
              exact ⟨cur.toList, by simpa using hh, by simpa using hs, hb⟩
          have hb2 : Below w.heap.size w W2 := hb0.grown hgrF hb0.size (by simp)
          have H0 : Hid (W2.heap[w.heap.size]? = some (.cells dst0.toArray 5 (0, 0))) := hd0
          clear hd0 hownF hgrF
          go_wp2
          clear hmk
          go_loopw [13, 14] (fun jv iv wr => ∃ (k : Nat) (dst : List Value), k ≤ s.size ∧ iv = .int .i64 k ∧ jv = .int .i64 (((repL ps (s.data.toList.take k)).length : Nat) : Int) ∧ Hid (wr.heap[w.heap.size]? = some (.cells dst.toArray 5 (0, 0))) ∧ dst.length = N ∧ Hid (dst.take (repL ps (s.data.toList.take k)).length = byteV (repL ps (s.data.toList.take k))) ∧ Below w.heap.size w wr) (fun _ iv _ => s.size - (intOf iv).toNat)
          case atStart => exact ⟨0, dst0, Nat.zero_le _, rfl, by simp [repL], H0, hd0l, by show _ = _; simp [repL, byteV], hb2⟩
          case round =>
            obtain ⟨k, dst, hk, rfl, rfl, hheap, hdl, hdt, hbl⟩ := hrel
            clear H0 hb2 hd0l
            by_cases hlt : k < s.size
            · have hlt2 : k < s.data.toList.length := by rw [← Lib.size_eq]; exact hlt
              have hts : s.data.toList.take (k + 1) = s.data.toList.take k ++ [s[k]'hlt] := by
                rw [List.take_succ_eq_append_getElem hlt2]
                rfl
              have HREP : Hid (repL ps (s.data.toList.take (k + 1)) = repL ps (s.data.toList.take k) ++ rep1 ps (s[k]'hlt)) := by show _ = _; rw [hts, repL_append, repL_one]
              have hle := repL_take_le ps s.data.toList k hlt2
              have hgk : s.data.toList.getD k 0 = s[k]'hlt := by
                rw [List.getD_eq_getElem?_getD, List.getElem?_eq_getElem hlt2]
                rfl
              rw [HNN.out, hgk] at hle
              obtain ⟨v, hcv0, hrc⟩ := HR.out.cell (s[k]'hlt)
              have hQlt : Q < w.heap.size := by
                obtain ⟨_, cur, vT, h1, _⟩ := HR.out
                exact (Array.getElem?_eq_some_iff.1 h1).1
              have hcv : wr.cell? ⟨Q, (s[k]'hlt).toNat, none⟩ = some v := (hbl.cell (p := ⟨Q, (s[k]'hlt).toNat, none⟩) hQlt).trans hcv0
              have hx := (s[k]'hlt).toNat_lt
              have hneq := fun (W : World) (a : Option Addr) (n c : Nat) => run_neq_slice_nil_any (P := Tryz.prog) W 29 5 a n c 0 0 Tryz.underlying29
              clear hts hgk hcv0
              generalize repL ps (s.data.toList.take k) = done at *
              cases hlk : look ps (s[k]'hlt) with
              | none =>
                have hr1 : rep1 ps (s[k]'hlt) = [s[k]'hlt] := by unfold rep1; rw [hlk]; rfl
                rw [hlk] at hrc
                rw [hr1] at hle
                have HR1 : Hid (repL ps (s.data.toList.take (k + 1)) = done ++ [s[k]'hlt]) := by show _ = _; rw [HREP.out, hr1]
                have hv : v = .slice none 0 0 := hrc
                subst hv
                have hj : done.length < dst.length := by rw [hdl]; simp at hle; omega
                have hj2 : done.length < N := by omega
                have d1 : wr.cell? ⟨w.heap.size, done.length, none⟩ = some dst[done.length] := by
                  rw [Lib.cell_of_heap hheap.out]
                  simp [hj]
                have d2 : wr.frozen? ⟨w.heap.size, done.length, none⟩ = false := Lib.frozen_of_heap hheap.out _
                have hle2 : (done.length : Int) + 1 ≤ N := by omega
                generalize dst[done.length] = vold at d1
                clear hlk hr1 hrc hle HREP
                go_wp2
                refine ⟨⟨k + 1, dst.set done.length (.int .u8 ((s[k]'hlt).toNat : Int)), by omega, by go_num, ?_, ?_, by rw [List.length_set]; exact hdl, ?_, hbl.setCell (p := ⟨w.heap.size, done.length, none⟩) hBfb _⟩, by simp [intOf]; omega⟩
                · rw [HR1.out]
                  simp
                · have := heap_setCell_same wr w.heap.size done.length _ _ (.int .u8 ((s[k]'hlt).toNat : Int)) hheap.out
                  show _ = _
                  rw [this]
                  simp
                · show _ = _
                  rw [HR1.out, List.length_append, List.length_singleton, take_set_snoc _ _ _ hj, hdt.out]
                  simp [byteV]
              | some nn =>
                have hr1 : rep1 ps (s[k]'hlt) = nn := by unfold rep1; rw [hlk]; rfl
                have hnl := look_long ps _ nn HL.out hlk
                rw [hlk] at hrc
                rw [hr1] at hle
                have HR1 : Hid (repL ps (s.data.toList.take (k + 1)) = done ++ nn) := by show _ = _; rw [HREP.out, hr1]
                obtain ⟨gv, capv, hv, hv1, hv2, hby, cells, fz, hgc⟩ := hrc
                subst hv
                have hgvlt := (Array.getElem?_eq_some_iff.1 hgc).1
                have HBY : Hid (∀ j v, (byteV nn)[j]? = some v → wr.cell? ((⟨gv, 0, none⟩ : Addr).add j) = some v) := fun j v hj => by
                  rw [addr_add0, hbl.cell (p := ⟨gv, j, none⟩) hgvlt]
                  have hjl : j < nn.length := by
                    have := (List.getElem?_eq_some_iff.1 hj).1
                    simpa [byteV] using this
                  have := hby j hjl
                  rw [Nat.zero_add] at this
                  rw [this, ← hj]
                  simp [byteV, hjl, List.getD_eq_getElem?_getD]
                have hsz1 : (Tryz.prog.info? 5).map (·.size) = some 1 := by kernel_rfl
                clear hlk hr1 HREP hby hgc
                have hj2 : done.length ≤ N := by omega
                have hle2 : (done.length : Int) + nn.length ≤ N := by omega
                by_cases hJN : N = done.length
                · subst hJN
                  obtain rfl : nn = [] := List.length_eq_zero_iff.1 (by omega)
                  have hx8 : ((s[k]'hlt).toNat : Int) < 256 := by omega
                  have hx0 : (0 : Int) ≤ ((s[k]'hlt).toNat : Int) := by omega
                  have hmin : Hid (([] : List Value).length = Nat.min 0 0) := rfl
                  have hfit : Hid (done.length + ([] : List Value).length ≤ dst.length) := by show _ ≤ _; rw [hdl]; exact Nat.le_refl _
                  have hone : Hid (∀ v ∈ ([] : List Value), v.oneCell' = true) := fun v hv => by simp at hv
                  have hno : Hid (0 < ([] : List Value).length → (some (⟨w.heap.size, 0, none⟩ : Addr)) = some ⟨w.heap.size, done.length, none⟩ ∧ ∃ ad, (some (⟨gv, 0, none⟩ : Addr)) = some ad ∧ ∀ j v, ([] : List Value)[j]? = some v → wr.drew.cell? (ad.add j) = some v) := fun h => by simp at h
                  have hbd : Below w.heap.size w wr.drew := hbl.drew
                  go_wp2
                  go_region_law (refine step_copy_splice rfl (.tmp 105) (.tmp 111) 29 29 rfl 5 Tryz.underlying29 hsz1 (some ⟨w.heap.size, 0, none⟩) (some ⟨gv, 0, none⟩) 0 0 0 capv (by simp [Act.eval, Act.put]) (by simp [Act.eval, Act.put]) w.heap.size done.length dst 5 hheap.out [] hmin.out hno.out hfit.out hone.out w.heap.size w hbd hBfb ?_; intro w5 hh5 hb5)
                  all_goals
                    clear hheap hbl hbd HBY hno
                    go_wp2
                    refine ⟨⟨k + 1, splice dst done.length [], by omega, by go_num, ?_, hh5, ?_, ?_, hb5⟩, by simp [intOf]; try omega⟩
                    · rw [HR1.out, List.append_nil]
                    · rw [length_splice _ _ _ hfit.out]
                      exact hdl
                    · show _ = _
                      have h := take_splice dst [] done.length (by have := hfit.out; simpa using this)
                      rw [HR1.out, List.append_nil]
                      simpa [hdt.out] using h
                · have hx8 : ((s[k]'hlt).toNat : Int) < 256 := by omega
                  have hx0 : (0 : Int) ≤ ((s[k]'hlt).toNat : Int) := by omega
                  have hmin : Hid ((byteV nn).length = Nat.min nn.length (N - done.length)) := by show _ = _; rw [byteV_length]; exact (Nat.min_eq_left (by omega)).symm
                  have hfit : Hid (done.length + (byteV nn).length ≤ dst.length) := by show _ ≤ _; rw [byteV_length, hdl]; omega
                  have hone : Hid (∀ v ∈ byteV nn, v.oneCell' = true) := fun v hv => by obtain ⟨b, _, rfl⟩ := List.mem_map.1 hv; rfl
                  have HBYd : Hid (∀ j v, (byteV nn)[j]? = some v → wr.drew.cell? ((⟨gv, 0, none⟩ : Addr).add j) = some v) := fun j v hj => by rw [World.cell?_drew]; exact HBY.out j v hj
                  have hbd : Below w.heap.size w wr.drew := hbl.drew
                  go_wp2
                  go_region_law (refine step_copy_splice rfl (.tmp 105) (.tmp 111) 29 29 rfl 5 Tryz.underlying29 hsz1 (some ⟨w.heap.size, done.length, none⟩) (some ⟨gv, 0, none⟩) (N - done.length) (N - done.length) nn.length capv (by simp [Act.eval, Act.put]) (by simp [Act.eval, Act.put]) w.heap.size done.length dst 5 hheap.out (byteV nn) hmin.out (fun _ => ⟨rfl, _, rfl, HBYd.out⟩) hfit.out hone.out w.heap.size w hbd hBfb ?_; intro w5 hh5 hb5)
                  all_goals
                    clear hheap hbl hbd HBY HBYd
                    go_wp2
                    refine ⟨⟨k + 1, splice dst done.length (byteV nn), by omega, by go_num, ?_, hh5, ?_, ?_, hb5⟩, by simp [intOf]; omega⟩
                    · rw [HR1.out, byteV_length, List.length_append]
                      congr 1
                      unfold wrap64
                      omega
                    · rw [length_splice _ _ _ hfit.out]
                      exact hdl
                    · show _ = _
                      rw [HR1.out, List.length_append, ← byteV_length nn, take_splice _ _ _ (by have := hfit.out; omega), hdt.out, byteV_append]
            · obtain rfl : k = s.size := by omega
              have e0 : s.data.toList.take s.size = s.data.toList := by rw [Lib.size_eq, List.take_length]
              rw [e0] at hdt ⊢
              have hfull : dst = byteV (repL ps s.data.toList) := by
                have := hdt.out
                rw [HNN.out, List.take_of_length_le (by omega)] at this
                exact this
              have hcv := fun cap => run_convert_bytes_arg (P := Tryz.prog) wr 29 5 Tryz.underlying29 Tryz.underlying5 w.heap.size 0 N cap ((repL ps s.data.toList).map fun b => ((b.toNat : Nat) : Int)) (by rw [List.length_map]; exact HNN.out) (fun i hi => by
                rw [Nat.zero_add, Lib.cell_of_heap hheap.out, hfull]
                have hi' : i < (repL ps s.data.toList).length := by rw [HNN.out]; exact hi
                simp [byteV, hi', List.getD_eq_getElem?_getD]) 9 Tryz.underlying9
              rw [strOfNums_bytes] at hcv
              have hlt' : ¬ ((s.size : Int) < (s.size : Int)) := by omega
              clear hlt hk e0 hfull hdt hdl
              go_wp2
              go_ret
              exact ⟨rfl, hbl⟩
end Go.Proofs.YtibgiohijknmbaaGreatDoor

/-
  (*strings.Replacer).Replace on a replacer that has not been built yet.
-/
namespace Go.Proofs.YtibgiohijknmbaaGreatDoor
open Go.RowKit
set_option linter.unusedVariables false
set_option linter.unusedSimpArgs false

set_option maxRecDepth 100000 in
set_option maxHeartbeats 2000000 in
theorem replacer_c (ps : Pairs) (R : Nat) (s : ByteArray) (w : World) (hm : 2 ≤ ps.length) (hm2 : ps.length ≤ 256) (hnot : ∃ i, i < ps.length ∧ (ps.getD i (0, [])).2.length ≠ 1) (hnd : (ps.map (·.1)).Nodup) (hlong : ∀ p ∈ ps, p.2.length ≤ 1000) (hs : s.size ≤ 4294967296) (h : RawAt w R 0 ps) :
    Calls Tryz.prog 99 #[.pointer (some ⟨R, 0, none⟩), .string s] w fun e w' => e = .returned (.string ⟨(repL ps s.data.toList).toArray⟩) ∧ w.grownBy w' (some R) := by
  obtain ⟨g, c, hR, hc, hst, hg, hgR⟩ := h
  have hRlt : R < w.heap.size := (Array.getElem?_eq_some_iff.1 hR).1
  have c0 : w.cell? ⟨R, 0, none⟩ = some (.int .u32 0) := by rw [Lib.cell_of_heap hR]; rfl
  have c1 : w.cell? ⟨R, 1, none⟩ = some (.int .i32 0) := by rw [Lib.cell_of_heap hR]; rfl
  have f0 : w.frozen? ⟨R, 0, none⟩ = false := Lib.frozen_of_heap hR 0
  have f1 : w.frozen? ⟨R, 1, none⟩ = false := Lib.frozen_of_heap hR 1
  have hR1 : (w.setCell ⟨R, 1, none⟩ (.int .i32 1)).heap[R]? = some (.cells #[.int .u32 0, .int .i32 1, .int .u32 0, .nilIface, .slice (some ⟨g, 0, none⟩) (2 * ps.length) c] 234 (0, 0)) := by
    have := heap_setCell_same w R 1 _ 234 (.int .i32 1) hR
    simpa using this
  have hraw : RawAt (w.setCell ⟨R, 1, none⟩ (.int .i32 1)) R 1 ps := ⟨g, c, hR1, hc, fun j hj => by
    rw [World.cell?_setCell_other _ _ _ _ (by intro h; injection h; omega)]
    exact hst j hj, by rw [World.size_setCell]; exact hg, hgR⟩
  have hb := buildonce_c ps R _ hm hm2 hnot hnd hlong hraw
  have hdo := o_do R _ (fun w2 => ∃ Q, w2.heap[R]? = some (.cells #[.int .u32 0, .int .i32 1, .int .u32 0, .iface 306 (.pointer (some ⟨Q, 0, none⟩)), .slice none 0 0] 234 (0, 0)) ∧ RepAt w2 w.heap.size Q ps ∧ (w.setCell ⟨R, 1, none⟩ (.int .i32 1)).grownBy w2 (some R)) w rfl c0 c1 f0 f1 (hb.mono fun e w2 ⟨he, Q, q1, q2, q3⟩ => ⟨he, ⟨by rw [Lib.cell_of_heap q1]; rfl, by rw [Lib.cell_of_heap q1]; rfl, Lib.frozen_of_heap q1 0, Lib.frozen_of_heap q1 1⟩, Q, q1, by rwa [World.size_setCell] at q2, q3⟩)
  clear hb hraw hR1 hst
  go_enter Tryz.func99, Tryz.ntmps99
  go_wp2_with (go_at_call 157; refine hdo.mono ?_)
  rintro e w1 ⟨rfl, w2, ⟨Q, q1, q2, q3⟩, rfl⟩
  have hE : (onceEnd R w2).heap[R]? = some (.cells #[.int .u32 1, .int .i32 0, .int .u32 0, .iface 306 (.pointer (some ⟨Q, 0, none⟩)), .slice none 0 0] 234 (0, 0)) := by
    unfold onceEnd
    have q1' : w2.drew.heap[R]? = some (.cells #[.int .u32 0, .int .i32 1, .int .u32 0, .iface 306 (.pointer (some ⟨Q, 0, none⟩)), .slice none 0 0] 234 (0, 0)) := q1
    have := heap_setCell_same _ R 1 _ 234 (.int .i32 0) (heap_setCell_same w2.drew R 0 _ 234 (.int .u32 1) q1')
    simpa using this
  have hrep : RepAt (onceEnd R w2) w.heap.size Q ps := q2.move fun k cells T fz hk hT => by
    have hkR : k ≠ R := by
      rintro rfl
      rw [q1] at hk
      injection hk with hk
      injection hk with _ ht
      exact hT ht.symm
    unfold onceEnd
    rw [heap_setCell_other _ _ _ _ hkR, heap_setCell_other _ _ _ _ hkR]
    rfl
  have hgr : w.grownBy (onceEnd R w2) (some R) := by
    refine ⟨q3.os, q3.tape, q3.output, ?_, fun k hk hne => ?_⟩
    · have h1 := q3.size
      rw [World.size_setCell] at h1
      unfold onceEnd
      rw [World.size_setCell, World.size_setCell]
      exact h1
    · have hkR : k ≠ R := fun h => hne (by rw [h])
      unfold onceEnd
      rw [heap_setCell_other _ _ _ _ hkR, heap_setCell_other _ _ _ _ hkR]
      exact (q3.block k (by rw [World.size_setCell]; exact hk) hne).trans (heap_setCell_other _ _ _ _ hkR)
  generalize onceEnd R w2 = w3 at *
  have c3 : w3.cell? ⟨R, 3, none⟩ = some (.iface 306 (.pointer (some ⟨Q, 0, none⟩))) := by rw [Lib.cell_of_heap hE]; rfl
  clear q1 q2 q3 hdo hR c0 c1 f0 f1
  have hmeth : ∀ (a : Addr) (w : World), (method 529 306 (.pointer (some a)) "Replace").run Tryz.prog w = .ok (421, .pointer (some a)) w := fun a w => by kernel_rfl
  go_wp2_with (go_at_call 421; refine (replace_c ps w.heap.size Q s w3 (by intro h; rw [h] at hm; simp at hm) hm2 hnd hlong hs hrep).mono ?_; rintro e w4 ⟨rfl, hbl4⟩)
  go_ret
  exact ⟨rfl, hgr.trans ⟨hbl4.os, hbl4.tape, hbl4.output, hbl4.size, fun k hk _ => hbl4.block k hk⟩⟩
end Go.Proofs.YtibgiohijknmbaaGreatDoor
