/-
  Joined texts: Once, RepN.
-/
import Derived.Test.YtibgiohijknmbaaGreatDoorM1
import Derived.Test.YtibgiohijknmbaaGreatDoorProg
import Derived.Tactics
import Derived.Tactics2
import Derived.Defers
import Derived.Laws.Pointers
import Derived.Laws.LoneSync
import Derived.RegionTactic
import Derived.RegionCalls
import Derived.ChangeAlike
/-
  sync.Once.Do on a fresh Once, in one goroutine: the function is called once, between a lock taken and let go (after the guide's worked example of a Once).
-/
namespace Go.Proofs.YtibgiohijknmbaaGreatDoor
open Go.RowKit
set_option linter.unusedVariables false
set_option linter.unusedSimpArgs false

theorem o_disable (w : World) : (callFunc 343 #[]).run Tryz.prog w = .ok (.value (.tuple #[])) w := run_call_mark0 Tryz.func343 (by kernel_rfl) (by kernel_rfl) (by kernel_rfl) .disable (by kernel_rfl) w
theorem o_enable (w : World) : (callFunc 345 #[]).run Tryz.prog w = .ok (.value (.tuple #[])) w := run_call_mark0 Tryz.func345 (by kernel_rfl) (by kernel_rfl) (by kernel_rfl) .enable (by kernel_rfl) w
theorem o_acquire (a : Addr) (w : World) : (callFunc 346 #[.pointer (some a)]).run Tryz.prog w = .ok (.value (.tuple #[])) w := run_call_marked Tryz.func346 (by kernel_rfl) (by kernel_rfl) (by kernel_rfl) .acquire (by kernel_rfl) a w
theorem o_merge (a : Addr) (w : World) : (callFunc 348 #[.pointer (some a)]).run Tryz.prog w = .ok (.value (.tuple #[])) w := run_call_marked Tryz.func348 (by kernel_rfl) (by kernel_rfl) (by kernel_rfl) .releaseMerge (by kernel_rfl) a w

theorem o_store (a : Addr) (x : Value) (u : FrameMode) (w : World) (hc : w.cell? a = some x) (hz : w.frozen? a = false) :
    CallsD Tryz.prog 282 #[.pointer (some a), .bool true] u w fun e u' w' => u' = u ∧ (e = .returned (.tuple #[]) ∧ w' = w.drew.setCell a (.int .u32 1)) := by
  have hc' : w.drew.cell? a = some x := by go_simp
  have hz' : w.drew.frozen? a = false := by go_simp
  have hst := run_call_store (P := Tryz.prog) Tryz.func323 (by kernel_rfl) (by kernel_rfl) (by kernel_rfl) (by kernel_rfl) (k := .u32) (y := 1) hc' hz'
  go_enter_d Tryz.func282, Tryz.ntmps282
  go_wp2
  go_region_calls
  all_goals (go_end0; exact ⟨rfl, rfl⟩)

set_option maxRecDepth 100000 in
set_option maxHeartbeats 1000000 in
theorem o_unlock (a : Addr) (u : FrameMode) (w : World) (hc : w.cell? a = some (.int .i32 1)) (hz : w.frozen? a = false) :
    CallsD Tryz.prog 281 #[.pointer (some a)] u w fun e u' w' => u' = u ∧ (e = .returned (.tuple #[]) ∧ w' = w.setCell a (.int .i32 0)) := by
  have hd := o_disable
  have he := o_enable
  have hr := o_merge
  have hadd := run_call_add (P := Tryz.prog) Tryz.func349 (by kernel_rfl) (by kernel_rfl) (by kernel_rfl) .i32 (by kernel_rfl) (y := -1) (s := 0) hc hz (by simp [go_sem]; rfl)
  have hcv := run_convert_to_unsafe (P := Tryz.prog) (src := 363) (dst := 275) Tryz.underlying363 Tryz.underlying275 (by kernel_rfl) hc
  go_enter_d Tryz.func281, Tryz.ntmps281
  go_wp2
  go_end0
  go_wp2
  go_end0
  exact ⟨rfl, rfl⟩

set_option maxRecDepth 100000 in
set_option maxHeartbeats 1000000 in
theorem o_lock (a : Addr) (w : World) (hc : w.cell? a = some (.int .i32 0)) (hz : w.frozen? a = false) :
    Calls Tryz.prog 280 #[.pointer (some a)] w fun e w' => e = .returned (.tuple #[]) ∧ w' = w.setCell a (.int .i32 1) := by
  have hd := o_disable
  have he := o_enable
  have ha := o_acquire
  have hcas := run_call_cas_hit (P := Tryz.prog) Tryz.func344 (by kernel_rfl) (by kernel_rfl) (by kernel_rfl) .i32 (by kernel_rfl) (y := 1) hc hz
  have hc' : (w.setCell a (.int .i32 1)).cell? a = some (.int .i32 1) := World.cell?_setCell_same w a _ hc
  have hcv := run_convert_to_unsafe (P := Tryz.prog) (src := 363) (dst := 275) Tryz.underlying363 Tryz.underlying275 (by kernel_rfl) hc'
  go_enter Tryz.func280, Tryz.ntmps280
  go_wp2
  first | go_end0 | (simp only [Exit.inBlock, Exit.then]; refine bodyPost_ret (results_none rfl _ _ _) rfl ?_) | refine bodyPost_ret (results_none rfl _ _ _) rfl ?_
  go_wp2
  go_end0
  exact ⟨rfl, rfl⟩

/-- What is behind a Once's block when its function has been called: the lock's and the mark's cells as they stand while it runs. -/
def OnceMid (b : Nat) (w : World) : Prop :=
  w.cell? ⟨b, 0, none⟩ = some (.int .u32 0) ∧ w.cell? ⟨b, 1, none⟩ = some (.int .i32 1) ∧ w.frozen? ⟨b, 0, none⟩ = false ∧ w.frozen? ⟨b, 1, none⟩ = false
def onceEnd (b : Nat) (w : World) : World := (w.drew.setCell ⟨b, 0, none⟩ (.int .u32 1)).setCell ⟨b, 1, none⟩ (.int .i32 0)

set_option maxRecDepth 100000 in
set_option maxHeartbeats 1600000 in
theorem o_slow (b : Nat) (fv : Value) (Q : World → Prop) (w : World) (hfv : fv = .func (.func 158) #[.pointer (some ⟨b, 0, none⟩)] #[])
    (h0 : w.cell? ⟨b, 0, none⟩ = some (.int .u32 0)) (h1 : w.cell? ⟨b, 1, none⟩ = some (.int .i32 0)) (f0 : w.frozen? ⟨b, 0, none⟩ = false) (f1 : w.frozen? ⟨b, 1, none⟩ = false)
    (hF : Calls Tryz.prog 158 #[.pointer (some ⟨b, 0, none⟩)] (w.setCell ⟨b, 1, none⟩ (.int .i32 1)) fun e w2 => e = .returned (.tuple #[]) ∧ OnceMid b w2 ∧ Q w2) :
    Calls Tryz.prog 219 #[.pointer (some ⟨b, 0, none⟩), fv] w fun e w' => e = .returned (.tuple #[]) ∧ ∃ w2, Q w2 ∧ w' = onceEnd b w2 := by
  subst hfv
  have hl := run_call_load (P := Tryz.prog) Tryz.func279 (by kernel_rfl) (by kernel_rfl) (by kernel_rfl) .u32 (by kernel_rfl) (w := w.setCell ⟨b, 1, none⟩ (.int .i32 1)) (a := ⟨b, 0, none⟩) (x := 0) ((World.cell?_setCell_other _ ⟨b, 1, none⟩ ⟨b, 0, none⟩ _ (by simp)).trans h0)
  have hnot : ∀ (x : Bool) (w : World), (Op.unary .not (.bool x)).run Tryz.prog w = .ok (.bool (!x)) w := fun _ _ => rfl
  go_enter_defers Tryz.func219, Tryz.ntmps219
  go_wp2_with (first | (go_at_call 280; refine (o_lock ⟨b, 1, none⟩ _ h1 f1).mono ?_; rintro e w' ⟨rfl, rfl⟩) | (go_at_call 158; refine hF.mono ?_; rintro e w2 ⟨rfl, ⟨m0, m1, m2, m3⟩, hq⟩) | (go_at_call 218; go_in))
  refine leaves_cons (f := 282) (args := #[.pointer (some ⟨b, 0, none⟩), .bool true]) (by simp) (by simp [go_sem]) ?_
  refine (o_store ⟨b, 0, none⟩ (.int .u32 0) .returning _ m0 m2).mono ?_
  rintro e u' w'' ⟨rfl, rfl, rfl⟩
  refine leaves_cons (f := 281) (args := #[.pointer (some ⟨b, 1, none⟩)]) (by simp [settle]) (by simp [go_sem]) ?_
  refine (o_unlock ⟨b, 1, none⟩ _ _ ?_ (by simp [m3])).mono ?_
  · exact (World.cell?_setCell_other _ ⟨b, 0, none⟩ ⟨b, 1, none⟩ _ (by simp)).trans m1
  rintro e u' w'' ⟨rfl, rfl, rfl⟩
  simp [Leaves, settle, results, Tryz.results219]
  exact ⟨w2, hq, rfl⟩

set_option maxRecDepth 100000 in
set_option maxHeartbeats 1600000 in
theorem o_do (b : Nat) (fv : Value) (Q : World → Prop) (w : World) (hfv : fv = .func (.func 158) #[.pointer (some ⟨b, 0, none⟩)] #[])
    (h0 : w.cell? ⟨b, 0, none⟩ = some (.int .u32 0)) (h1 : w.cell? ⟨b, 1, none⟩ = some (.int .i32 0)) (f0 : w.frozen? ⟨b, 0, none⟩ = false) (f1 : w.frozen? ⟨b, 1, none⟩ = false)
    (hF : Calls Tryz.prog 158 #[.pointer (some ⟨b, 0, none⟩)] (w.setCell ⟨b, 1, none⟩ (.int .i32 1)) fun e w2 => e = .returned (.tuple #[]) ∧ OnceMid b w2 ∧ Q w2) :
    Calls Tryz.prog 157 #[.pointer (some ⟨b, 0, none⟩), fv] w fun e w' => e = .returned (.tuple #[]) ∧ ∃ w2, Q w2 ∧ w' = onceEnd b w2 := by
  have hs := o_slow b fv Q w hfv h0 h1 f0 f1 hF
  have hl := run_call_load (P := Tryz.prog) Tryz.func279 (by kernel_rfl) (by kernel_rfl) (by kernel_rfl) .u32 (by kernel_rfl) (w := w) (a := ⟨b, 0, none⟩) (x := 0) h0
  have hnot : ∀ (x : Bool) (w : World), (Op.unary .not (.bool x)).run Tryz.prog w = .ok (.bool (!x)) w := fun _ _ => rfl
  clear hF hfv
  go_enter Tryz.func157, Tryz.ntmps157
  go_wp2_with (first | (go_at_call 219; refine hs.mono ?_; rintro e w' ⟨rfl, hq⟩) | (go_at_call 218; go_in))
  go_end0
  exact ⟨rfl, hq⟩
end Go.Proofs.YtibgiohijknmbaaGreatDoor

/-
  strings.NewReplacer, (*Replacer).buildOnce.
-/
namespace Go.Proofs.YtibgiohijknmbaaGreatDoor
open Go.RowKit
set_option linter.unusedVariables false
set_option linter.unusedSimpArgs false

/-- A Replacer in block R that has not been built yet. -/
def RawAt (w : World) (R : Nat) (q : Int) (ps : Pairs) : Prop :=
  ∃ g c, w.heap[R]? = some (.cells #[.int .u32 0, .int .i32 q, .int .u32 0, .nilIface, .slice (some ⟨g, 0, none⟩) (2 * ps.length) c] 234 (0, 0)) ∧ 2 * ps.length ≤ c ∧ StrsAt w g (oldnew ps) ∧ g < w.heap.size ∧ g ≠ R

theorem own_same {w w' : World} {B n : Nat} {e : TypeId} {v : Value} {xs : List Value} (h : w.ownsRow B e 1 v n xs) (hs : ∀ k, v.ownBlock = some k → w'.heap[k]? = w.heap[k]?) : w'.ownsRow B e 1 v n xs := by
  obtain ⟨h1, h2⟩ := h
  refine ⟨h1, ?_⟩
  rcases h2 with h2 | ⟨g, cap, cur, rfl, hb, hh, r⟩
  · exact .inl h2
  · exact .inr ⟨g, cap, cur, rfl, hb, (hs g rfl).trans hh, r⟩
theorem own_typed {w : World} {B n : Nat} {e : TypeId} {v : Value} {xs : List Value} (h : w.ownsRow B e 1 v n xs) (k : Nat) (hk : v.ownBlock = some k) : ∃ cells, w.heap[k]? = some (.cells cells e (0, 0)) := by
  rcases h.2 with ⟨rfl, _⟩ | ⟨g, cap, cur, rfl, hb, hh, r⟩
  · simp [Value.ownBlock] at hk
  · have : g = k := by simpa [Value.ownBlock] using hk
    subst this
    exact ⟨cur, hh⟩
theorem RepAt.move {w w' : World} {B Q : Nat} {ps : Pairs} (h : RepAt w B Q ps) (e : ∀ (k : Nat) (cells : Array Value) (T : TypeId) (fz : Nat × Nat), w.heap[k]? = some (Obj.cells cells T fz) → T ≠ 234 → w'.heap[k]? = w.heap[k]?) : RepAt w' B Q ps := by
  obtain ⟨hB, cur, vT, h1, h2, h3, h4, h5⟩ := h
  refine ⟨hB, cur, vT, (e _ _ _ _ h1 (by decide)).trans h1, h2, fun c => ?_, h4, own_same h5 fun k hk => ?_⟩
  · obtain ⟨v, hv, hr⟩ := h3 c
    exact ⟨v, hv, cell_of_block hr fun g cells fz hg => e _ _ _ _ hg (by decide)⟩
  · obtain ⟨cells, hc⟩ := own_typed h5 k hk
    exact e _ _ _ _ hc (by decide)

set_option maxRecDepth 100000 in
set_option maxHeartbeats 1000000 in
theorem newrep_c (ps : Pairs) (g c : Nat) (w : World) (hm : 1 ≤ ps.length) (hm2 : ps.length ≤ 256) (hst : StrsAt w g (oldnew ps)) (hg : g < w.heap.size) (hc : 2 * ps.length ≤ c) (hc2 : c ≤ 9223372036854775807) :
    Calls Tryz.prog 98 #[.slice (some ⟨g, 0, none⟩) (2 * ps.length) c] w fun e w' => ∃ R, e = .returned (.pointer (some ⟨R, 0, none⟩)) ∧ w.heap.size ≤ R ∧ RawAt w' R 0 ps ∧ Below w.heap.size w w' := by
  obtain ⟨i0, hi, hz0, hz1, hz2⟩ := info_parts sinfo
  have hl := oldnew_length ps
  have hmod : (2 * (ps.length : Int)) % 2 = 0 := by omega
  have hne : (((2 * (ps.length : Int)) % 2) == 1) = false := by rw [hmod]; rfl
  go_enter Tryz.func98, Tryz.ntmps98
  go_wp2_with (at_builtin; refine wpList_append_own _ rfl _ _ 39 rfl w.heap.size 9 i0 (.string ByteArray.empty) 1 16 Tryz.underlying39 hi hz0 hz1 hz2 rfl (by decide) (.slice none 0 0) 0 [] rfl ⟨rfl, .inl ⟨rfl, rfl⟩⟩ ⟨g, 0, none⟩ (2 * ps.length) c ((oldnew ps).map Value.string) rfl ?c0 ?c1 ?c2 ?c3 ?c4 ?c5 ?_)
  case c0 => rw [List.length_map, hl]; omega
  case c1 =>
    intro j u hj
    rw [List.getElem?_map] at hj
    obtain ⟨s, hs, rfl⟩ := Option.map_eq_some_iff.1 hj
    have hjl : j < (oldnew ps).length := (List.getElem?_eq_some_iff.1 hs).1
    rw [addr_add0, hst j hjl, List.getD_eq_getElem?_getD, hs]
    rfl
  case c2 => intro u hu; obtain ⟨s, _, rfl⟩ := List.mem_map.1 hu; rfl
  case c3 => unfold maxLen; omega
  case c4 => omega
  case c5 => omega
  intro v' w2 hown hgr _
  obtain ⟨g', c', cur, rfl, hb', hh', hn', hm', hs', ht'⟩ : ∃ g cap cur, v' = .slice (some ⟨g, 0, none⟩) (2 * ps.length) cap ∧ w.heap.size ≤ g ∧ w2.heap[g]? = some (.cells cur 9 (0, 0)) ∧ 2 * ps.length ≤ cap ∧ cap ≤ maxLen ∧ cur.size = cap * 1 ∧ cur.toList.take (2 * ps.length * 1) = (oldnew ps).map Value.string := by
    rcases hown.2 with ⟨_, h0⟩ | h
    · omega
    · simpa using h
  have hst2 : StrsAt w2 g' (oldnew ps) := fun j hj => by
    have h := hown.cells (g := g') rfl j (.string ((oldnew ps).getD j ByteArray.empty)) (by rw [List.getElem?_map, List.getElem?_eq_getElem hj, List.getD_eq_getElem?_getD, List.getElem?_eq_getElem hj]; rfl)
    rwa [addr_add0] at h
  have hgl : g' < w2.heap.size := (Array.getElem?_eq_some_iff.1 hh').1
  clear hown hh' ht' hs'
  go_wp2
  go_ret
  refine ⟨w2.heap.size, rfl, hgr.size, ⟨g', c', heap_last _ _, hn', fun j hj => ?_, by simp; omega, by omega⟩, ((Below.refl _ _).grown hgr (Nat.le_refl _) (by simp [Value.ownBlock])).alloc hgr.size _⟩
  rw [World.cell?_alloc_past _ _ _ hgl]
  exact hst2 j hj

set_option maxRecDepth 100000 in
set_option maxHeartbeats 1000000 in
theorem buildonce_c (ps : Pairs) (R : Nat) (w : World) (hm : 2 ≤ ps.length) (hm2 : ps.length ≤ 256) (hnot : ∃ i, i < ps.length ∧ (ps.getD i (0, [])).2.length ≠ 1) (hnd : (ps.map (·.1)).Nodup) (hlong : ∀ p ∈ ps, p.2.length ≤ 1000) (h : RawAt w R 1 ps) :
    Calls Tryz.prog 158 #[.pointer (some ⟨R, 0, none⟩)] w fun e w' => e = .returned (.tuple #[]) ∧ ∃ Q, w'.heap[R]? = some (.cells #[.int .u32 0, .int .i32 1, .int .u32 0, .iface 306 (.pointer (some ⟨Q, 0, none⟩)), .slice none 0 0] 234 (0, 0)) ∧ RepAt w' w.heap.size Q ps ∧ w.grownBy w' (some R) := by
  obtain ⟨g, c, hR, hc, hst, hg, hgR⟩ := h
  have hRlt : R < w.heap.size := (Array.getElem?_eq_some_iff.1 hR).1
  have hc4 : w.cell? ⟨R, 4, none⟩ = some (.slice (some ⟨g, 0, none⟩) (2 * ps.length) c) := by rw [Lib.cell_of_heap hR]; rfl
  have hb := rep_build ps R g c ps.length w rfl hm hm2 hc hc4 hst hg hnot hnd hlong
  clear hc4
  go_enter Tryz.func158, Tryz.ntmps158
  go_wp2_with (go_at_call 220; refine hb.mono ?_)
  rintro e w1 ⟨Q, rfl, hrep, hbl⟩
  have hR1 : w1.heap[R]? = some (.cells #[.int .u32 0, .int .i32 1, .int .u32 0, .nilIface, .slice (some ⟨g, 0, none⟩) (2 * ps.length) c] 234 (0, 0)) := (hbl.block R hRlt).trans hR
  have c3 : w1.cell? ⟨R, 3, none⟩ = some .nilIface := by rw [Lib.cell_of_heap hR1]; rfl
  have c4 : w1.cell? ⟨R, 4, none⟩ = some (.slice (some ⟨g, 0, none⟩) (2 * ps.length) c) := by rw [Lib.cell_of_heap hR1]; rfl
  have f3 : w1.frozen? ⟨R, 3, none⟩ = false := Lib.frozen_of_heap hR1 3
  have f4 : w1.frozen? ⟨R, 4, none⟩ = false := Lib.frozen_of_heap hR1 4
  go_wp2
  go_end0
  refine ⟨rfl, Q, ?_, ?_, ?_⟩
  · have := heap_setCell_same _ R 4 _ 234 (.slice none 0 0) (heap_setCell_same w1 R 3 _ 234 (.iface 306 (.pointer (some ⟨Q, 0, none⟩))) hR1)
    simpa using this
  · refine hrep.move fun k cells T fz hk hT => ?_
    have hkR : k ≠ R := by
      rintro rfl
      rw [hR1] at hk
      injection hk with hk
      injection hk with _ ht
      exact hT ht.symm
    rw [heap_setCell_other _ _ _ _ hkR, heap_setCell_other _ _ _ _ hkR]
  · refine ⟨hbl.os, hbl.tape, hbl.output, by rw [World.size_setCell, World.size_setCell]; exact hbl.size, fun k hk hne => ?_⟩
    have hkR : k ≠ R := fun h => hne (by rw [h])
    rw [heap_setCell_other _ _ _ _ hkR, heap_setCell_other _ _ _ _ hkR]
    exact hbl.block k hk
end Go.Proofs.YtibgiohijknmbaaGreatDoor
