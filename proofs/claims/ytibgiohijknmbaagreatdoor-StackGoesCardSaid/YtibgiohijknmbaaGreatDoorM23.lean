/-
  Joined texts: Fnd, SRv.
-/
import Derived.Test.YtibgiohijknmbaaGreatDoorM22
/-
  store: Find, of opaque origins.
-/
namespace Go.Proofs.YtibgiohijknmbaaGreatDoor
open Go.RowKit
set_option linter.unusedVariables false
set_option linter.unusedSimpArgs false

def findS (ss : List SEnt) (s : ByteArray) (on : Int) : Option Nat :=
  match getS ss s with
  | some e => if e.nonce = on then some e.blk else none
  | none => none
theorem findS_none {ss : List SEnt} {s : ByteArray} {on : Int} (h : ownI ss s on < 0) : findS ss s on = none := by
  unfold ownI at h
  unfold findS
  cases hg : getS ss s with
  | none => rfl
  | some e =>
    rw [hg] at h
    simp only at h ⊢
    by_cases hn : e.nonce = on
    · rw [if_pos hn] at h
      have h1 := getS_none h
      rw [hg] at h1
      cases h1
    · rw [if_neg hn]
theorem findS_some {ss : List SEnt} {s : ByteArray} {on : Int} (h : ¬ ownI ss s on < 0) : ∃ k : Nat, ownI ss s on = (k : Int) ∧ k < ss.length ∧ findS ss s on = some (ss.getD k default).blk := by
  unfold ownI at *
  unfold findS
  cases hg : getS ss s with
  | none => rw [hg] at h; simp at h
  | some e =>
    rw [hg] at h
    simp only at h ⊢
    split at h
    · rename_i hne
      obtain ⟨k, hk, hkl, hg2⟩ := getS_some (by omega : 0 ≤ firstS (fun e => bEq e.url s) ss)
      rw [hg] at hg2
      have := Option.some.inj hg2
      subst this
      exact ⟨k, by rw [if_pos hne]; exact hk, hkl, by rw [if_pos hne]⟩
    · simp at h

set_option maxRecDepth 100000 in
set_option maxHeartbeats 2000000 in
theorem fnd_c (B sb : Nat) (ss : List SEnt) (room : Int) (sch user pass host : ByteArray) (hasHost : Bool) (port : Int) (opq : Bool) (text : ByteArray) (pa : Option Addr) (pn pc : Nat) (hasQ hasF : Bool) (query frag : ByteArray) (s oh : ByteArray) (op on : Int) (w : World) (hT : StoreAt w B sb ss room) (hall : ∀ e ∈ ss, e.sch = ⟨#[]⟩)
    (hbare : ∀ W, Below w.heap.size w W → Calls Tryz.prog 37 #[.agg #[.string sch, .string user, .string pass, .string host, .bool hasHost, .int .i64 port, .bool opq, .string text, .slice pa pn pc, .bool hasQ, .bool hasF, .string query, .string frag]] W fun e w' => e = .returned (.string s) ∧ Below W.heap.size W w') :
    Calls Tryz.prog 34 #[.pointer (some ⟨sb, 0, none⟩), .agg #[.string sch, .string user, .string pass, .string host, .bool hasHost, .int .i64 port, .bool opq, .string text, .slice pa pn pc, .bool hasQ, .bool hasF, .string query, .string frag], .agg (oriV ⟨#[]⟩ oh op on)] w fun e w' => e = .returned (.tuple #[optPtr (findS ss s on), .bool (findS ss s on).isSome]) ∧ Below w.heap.size w w' := by
  have hs1 : (w.alloc (.cells #[.string sch, .string user, .string pass, .string host, .bool hasHost, .int .i64 port, .bool opq, .string text, .slice pa pn pc, .bool hasQ, .bool hasF, .string query, .string frag] 41)).heap.size = w.heap.size + 1 := by simp
  have hb0 : Below w.heap.size w ((w.alloc (.cells #[.string sch, .string user, .string pass, .string host, .bool hasHost, .int .i64 port, .bool opq, .string text, .slice pa pn pc, .bool hasQ, .bool hasF, .string query, .string frag] 41)).alloc (.cells (oriV ⟨#[]⟩ oh op on) 23)) := ((Below.refl _ _).alloc (Nat.le_refl _) _).alloc (by rw [hs1]; omega) _
  have hr : ((w.alloc (.cells #[.string sch, .string user, .string pass, .string host, .bool hasHost, .int .i64 port, .bool opq, .string text, .slice pa pn pc, .bool hasQ, .bool hasF, .string query, .string frag] 41)).alloc (.cells (oriV ⟨#[]⟩ oh op on) 23)).heap[w.heap.size]? = some (.cells #[.string sch, .string user, .string pass, .string host, .bool hasHost, .int .i64 port, .bool opq, .string text, .slice pa pn pc, .bool hasQ, .bool hasF, .string query, .string frag] 41 (0, 0)) := by
    rw [Below.heap_alloc _ _ _ (by rw [hs1]; omega)]
    exact heap_last _ _
  have hr' : ((w.alloc (.cells #[.string sch, .string user, .string pass, .string host, .bool hasHost, .int .i64 port, .bool opq, .string text, .slice pa pn pc, .bool hasQ, .bool hasF, .string query, .string frag] 41)).alloc (.cells (oriV ⟨#[]⟩ oh op on) 23)).heap[w.heap.size + 1]? = some (.cells (oriV ⟨#[]⟩ oh op on) 23 (0, 0)) := by
    have := heap_last (w.alloc (.cells #[.string sch, .string user, .string pass, .string host, .bool hasHost, .int .i64 port, .bool opq, .string text, .slice pa pn pc, .bool hasQ, .bool hasF, .string query, .string frag] 41)) (.cells (oriV ⟨#[]⟩ oh op on) 23)
    rw [hs1] at this
    exact this
  obtain ⟨W0, hW0⟩ : ∃ W, W = ((w.alloc (.cells #[.string sch, .string user, .string pass, .string host, .bool hasHost, .int .i64 port, .bool opq, .string text, .slice pa pn pc, .bool hasQ, .bool hasF, .string query, .string frag] 41)).alloc (.cells (oriV ⟨#[]⟩ oh op on) 23)) := ⟨_, rfl⟩
  rw [← hW0] at hr hb0 hr'
  have HW : Hid (((w.alloc (.cells #[.string sch, .string user, .string pass, .string host, .bool hasHost, .int .i64 port, .bool opq, .string text, .slice pa pn pc, .bool hasQ, .bool hasF, .string query, .string frag] 41)).alloc (.cells #[.string ⟨#[]⟩, .string oh, .int .i64 op, .int .i64 on] 23)) = W0) := Lib.hid hW0.symm
  clear hW0 hs1
  have hT0 := hT.later (hb0.mono (Nat.le_refl _))
  have how := own_c B sb ss room sch user pass host hasHost port opq text pa pn pc hasQ hasF query frag s oh op on W0 hT0 hall (fun W hb => hbare W (hb0.trans (hb.mono hb0.size)))
  have c0 : W0.cell? ⟨w.heap.size, 0, none⟩ = some (.string sch) := Lib.cell_of_heap hr 0
  have c1 : W0.cell? ⟨w.heap.size, 1, none⟩ = some (.string user) := Lib.cell_of_heap hr 1
  have c2 : W0.cell? ⟨w.heap.size, 2, none⟩ = some (.string pass) := Lib.cell_of_heap hr 2
  have c3 : W0.cell? ⟨w.heap.size, 3, none⟩ = some (.string host) := Lib.cell_of_heap hr 3
  have c4 : W0.cell? ⟨w.heap.size, 4, none⟩ = some (.bool hasHost) := Lib.cell_of_heap hr 4
  have c5 : W0.cell? ⟨w.heap.size, 5, none⟩ = some (.int .i64 port) := Lib.cell_of_heap hr 5
  have c6 : W0.cell? ⟨w.heap.size, 6, none⟩ = some (.bool opq) := Lib.cell_of_heap hr 6
  have c7 : W0.cell? ⟨w.heap.size, 7, none⟩ = some (.string text) := Lib.cell_of_heap hr 7
  have c8 : W0.cell? ⟨w.heap.size, 8, none⟩ = some (.slice pa pn pc) := Lib.cell_of_heap hr 8
  have c9 : W0.cell? ⟨w.heap.size, 9, none⟩ = some (.bool hasQ) := Lib.cell_of_heap hr 9
  have c10 : W0.cell? ⟨w.heap.size, 10, none⟩ = some (.bool hasF) := Lib.cell_of_heap hr 10
  have c11 : W0.cell? ⟨w.heap.size, 11, none⟩ = some (.string query) := Lib.cell_of_heap hr 11
  have c12 : W0.cell? ⟨w.heap.size, 12, none⟩ = some (.string frag) := Lib.cell_of_heap hr 12
  have b0 : W0.cell? ⟨w.heap.size + 1, 0, none⟩ = some (.string ⟨#[]⟩) := Lib.cell_of_heap hr' 0
  have b1 : W0.cell? ⟨w.heap.size + 1, 1, none⟩ = some (.string oh) := Lib.cell_of_heap hr' 1
  have b2 : W0.cell? ⟨w.heap.size + 1, 2, none⟩ = some (.int .i64 op) := Lib.cell_of_heap hr' 2
  have b3 : W0.cell? ⟨w.heap.size + 1, 3, none⟩ = some (.int .i64 on) := Lib.cell_of_heap hr' 3
  have HT0 := Lib.hid hT0
  clear hr hr' hT hbare hall hT0
  unfold oriV at how ⊢
  by_cases hneg : ownI ss s on < 0
  · rw [findS_none hneg]
    unfold optPtr
    simp only [Option.map_none, Option.isSome_none]
    generalize ownI ss s on = at_ at *
    go_enter Tryz.func34, Tryz.ntmps34
    go_wp2_with (rw [HW.out])
    refine how.mono ?_
    rintro e w1 ⟨rfl, hb1⟩
    clear HW c0 c1 c2 c3 c4 c5 c6 c7 c8 c9 c10 c11 c12 b0 b1 b2 b3
    go_wp2_with fail
    go_ret2
    exact ⟨rfl, hb0.trans (hb1.mono hb0.size)⟩
  · obtain ⟨k, hk, hkl, hf⟩ := findS_some hneg
    rw [hk] at how
    rw [hf]
    unfold optPtr
    simp only [Option.map_some, Option.isSome_some]
    have hev := sentV_get ss default k hkl 5 (by decide)
    obtain ⟨blk, hblk⟩ : ∃ blk, (ss.getD k default).blk = blk := ⟨_, rfl⟩
    have hev : (sentV ss)[k * 6 + 5]? = some (.pointer (some ⟨blk, 0, none⟩)) := by rw [hev, ← hblk]; rfl
    rw [hblk]
    have HEV := Lib.hid hev
    clear hev hblk hk hneg hf
    go_enter Tryz.func34, Tryz.ntmps34
    go_wp2_with (rw [HW.out])
    refine how.mono ?_
    rintro e w1 ⟨rfl, hb1⟩
    clear HW c0 c1 c2 c3 c4 c5 c6 c7 c8 c9 c10 c11 c12 b0 b1 b2 b3
    obtain ⟨_, hn, lv, hv, ho⟩ := HT0.out.later hb1
    have q0 : w1.cell? ⟨sb, 0, none⟩ = some lv := Lib.cell_of_heap hv 0
    rcases ho.2 with ⟨_, h0⟩ | ⟨g, cap, cur, rfl, hg2, hhp, hnc, hm, hs, ht⟩
    · omega
    · have c2 := ho.cells (g := g) rfl _ _ HEV.out
      rw [addr_add0] at c2
      clear hv ho hs ht hhp
      have hkl' : (k : Int) < (ss.length : Int) := by omega
      go_wp2_with fail
      go_ret2
      exact ⟨rfl, hb0.trans (hb1.mono hb0.size)⟩
end Go.Proofs.YtibgiohijknmbaaGreatDoor

/-
  store.Revoke: of the only entry, and of none.
-/
namespace Go.Proofs.YtibgiohijknmbaaGreatDoor
open Go.RowKit
set_option linter.unusedVariables false
set_option linter.unusedSimpArgs false

/-- The world after the only entry went. -/
theorem sdel_close (B sb g cap : Nat) (room : Int) (cur : Array Value) (w : World) (nq : Nat) (hBt : B ≤ sb) (hBg : B ≤ g) (hgt : g ≠ sb) (hm : cap ≤ maxLen) (hs : cur.size = cap * 6)
    (hv : w.heap[sb]? = some (.cells #[.slice (some ⟨g, 0, none⟩) 1 cap, .int .i64 room] 135 (0, 0))) (hg : w.heap[g]? = some (.cells cur 137 (0, 0))) :
    StoreAt (((w.drewN nq).setCells g 0 zs6).setCell ⟨sb, 0, none⟩ (.slice (some ⟨g, 0, none⟩) 0 cap)) B sb [] room ∧
      Below B w (((w.drewN nq).setCells g 0 zs6).setCell ⟨sb, 0, none⟩ (.slice (some ⟨g, 0, none⟩) 0 cap)) ∧
      TyKept stoTs w (((w.drewN nq).setCells g 0 zs6).setCell ⟨sb, 0, none⟩ (.slice (some ⟨g, 0, none⟩) 0 cap)) ∧
      ChKept w (((w.drewN nq).setCells g 0 zs6).setCell ⟨sb, 0, none⟩ (.slice (some ⟨g, 0, none⟩) 0 cap)) := by
  obtain ⟨cur', h1, h2⟩ := setCells_same g zs6 0 (w.drewN nq) cur _ hg
  have hoth : ∀ k, k ≠ g → k ≠ sb → (((w.drewN nq).setCells g 0 zs6).setCell ⟨sb, 0, none⟩ (.slice (some ⟨g, 0, none⟩) 0 cap)).heap[k]? = w.heap[k]? := fun k k1 k2 => by
    rw [heap_setCell_other _ _ _ _ k2, setCells_other _ _ _ _ _ k1]
    rfl
  have hvt : ((w.drewN nq).setCells g 0 zs6).heap[sb]? = some (.cells #[.slice (some ⟨g, 0, none⟩) 1 cap, .int .i64 room] 135 (0, 0)) := by
    rw [setCells_other _ _ _ _ _ (fun e => hgt e.symm)]
    exact hv
  refine ⟨⟨hBt, by simp, _, heap_setCell_same _ sb 0 _ _ _ hvt, ?_⟩, ?_, ?_, ?_⟩
  · refine ⟨rfl, .inr ⟨g, cap, cur', rfl, hBg, ?_, Nat.zero_le _, hm, ?_, by simp [sentV]⟩⟩
    · rw [heap_setCell_other _ _ _ _ hgt]
      exact h1
    · rw [h2, hs]
  · exact (below_setCells g hBg _ _ _ ((Below.refl B w).trans ((below_drewN w nq).mono (Nat.le_of_lt (Nat.lt_of_le_of_lt hBt (Array.getElem?_eq_some_iff.1 hv).1))))).setCell hBt _
  · intro k c T fz hk hT
    refine hoth k ?_ ?_
    · rintro rfl
      rw [hg] at hk
      injection Option.some.inj hk with _ h2
      exact hT (by simp [← h2, stoTs])
    · rintro rfl
      rw [hv] at hk
      injection Option.some.inj hk with _ h2
      exact hT (by simp [← h2, stoTs])
  · intro k cp buf cl s r tm hk
    refine hoth k ?_ ?_
    · rintro rfl
      rw [hg] at hk
      cases Option.some.inj hk
    · rintro rfl
      rw [hv] at hk
      cases Option.some.inj hk

theorem ownI_one (en : SEnt) (on : Int) (hn : en.nonce = on) : ownI [en] en.url on = 0 := by
  have h : bEq en.url en.url = true := by simp [bEq]
  unfold ownI getS firstS
  simp [List.findIdx_cons, h, hn]
def SRevOk (B sb : Nat) (room : Int) (w : World) (e : Ending) (w' : World) : Prop := e = .returned (.bool true) ∧ StoreAt w' B sb [] room ∧ Below B w w' ∧ TyKept stoTs w w' ∧ ChKept w w'
set_option maxRecDepth 100000 in
set_option maxHeartbeats 2000000 in
theorem srev_c (B sb : Nat) (en : SEnt) (room : Int) (sch user pass host : ByteArray) (hasHost : Bool) (port : Int) (opq : Bool) (text : ByteArray) (pa : Option Addr) (pn pc : Nat) (hasQ hasF : Bool) (query frag : ByteArray) (oh : ByteArray) (op on : Int) (w : World) (hBw : B ≤ w.heap.size) (hT : StoreAt w B sb [en] room) (hsch : en.sch = ⟨#[]⟩) (hon : en.nonce = on)
    (hbare : ∀ W, Below w.heap.size w W → Calls Tryz.prog 37 #[.agg #[.string sch, .string user, .string pass, .string host, .bool hasHost, .int .i64 port, .bool opq, .string text, .slice pa pn pc, .bool hasQ, .bool hasF, .string query, .string frag]] W fun e w' => e = .returned (.string en.url) ∧ Below W.heap.size W w') :
    Calls Tryz.prog 36 #[.pointer (some ⟨sb, 0, none⟩), .agg #[.string sch, .string user, .string pass, .string host, .bool hasHost, .int .i64 port, .bool opq, .string text, .slice pa pn pc, .bool hasQ, .bool hasF, .string query, .string frag], .agg (oriV ⟨#[]⟩ oh op on)] w (SRevOk B sb room w) := by
  have hs1 : (w.alloc (.cells #[.string sch, .string user, .string pass, .string host, .bool hasHost, .int .i64 port, .bool opq, .string text, .slice pa pn pc, .bool hasQ, .bool hasF, .string query, .string frag] 41)).heap.size = w.heap.size + 1 := by simp
  have hb0 : Below w.heap.size w ((w.alloc (.cells #[.string sch, .string user, .string pass, .string host, .bool hasHost, .int .i64 port, .bool opq, .string text, .slice pa pn pc, .bool hasQ, .bool hasF, .string query, .string frag] 41)).alloc (.cells (oriV ⟨#[]⟩ oh op on) 23)) := ((Below.refl _ _).alloc (Nat.le_refl _) _).alloc (by rw [hs1]; omega) _
  have hr : ((w.alloc (.cells #[.string sch, .string user, .string pass, .string host, .bool hasHost, .int .i64 port, .bool opq, .string text, .slice pa pn pc, .bool hasQ, .bool hasF, .string query, .string frag] 41)).alloc (.cells (oriV ⟨#[]⟩ oh op on) 23)).heap[w.heap.size]? = some (.cells #[.string sch, .string user, .string pass, .string host, .bool hasHost, .int .i64 port, .bool opq, .string text, .slice pa pn pc, .bool hasQ, .bool hasF, .string query, .string frag] 41 (0, 0)) := by
    rw [Below.heap_alloc _ _ _ (by rw [hs1]; omega)]
    exact heap_last _ _
  have hr' : ((w.alloc (.cells #[.string sch, .string user, .string pass, .string host, .bool hasHost, .int .i64 port, .bool opq, .string text, .slice pa pn pc, .bool hasQ, .bool hasF, .string query, .string frag] 41)).alloc (.cells (oriV ⟨#[]⟩ oh op on) 23)).heap[w.heap.size + 1]? = some (.cells (oriV ⟨#[]⟩ oh op on) 23 (0, 0)) := by
    have := heap_last (w.alloc (.cells #[.string sch, .string user, .string pass, .string host, .bool hasHost, .int .i64 port, .bool opq, .string text, .slice pa pn pc, .bool hasQ, .bool hasF, .string query, .string frag] 41)) (.cells (oriV ⟨#[]⟩ oh op on) 23)
    rw [hs1] at this
    exact this
  obtain ⟨W0, hW0⟩ : ∃ W, W = ((w.alloc (.cells #[.string sch, .string user, .string pass, .string host, .bool hasHost, .int .i64 port, .bool opq, .string text, .slice pa pn pc, .bool hasQ, .bool hasF, .string query, .string frag] 41)).alloc (.cells (oriV ⟨#[]⟩ oh op on) 23)) := ⟨_, rfl⟩
  rw [← hW0] at hr hb0 hr'
  have HW : Hid (((w.alloc (.cells #[.string sch, .string user, .string pass, .string host, .bool hasHost, .int .i64 port, .bool opq, .string text, .slice pa pn pc, .bool hasQ, .bool hasF, .string query, .string frag] 41)).alloc (.cells #[.string ⟨#[]⟩, .string oh, .int .i64 op, .int .i64 on] 23)) = W0) := Lib.hid hW0.symm
  clear hW0 hs1
  have hT0 := hT.later (hb0.mono (Nat.le_refl _))
  have how := own_c B sb [en] room sch user pass host hasHost port opq text pa pn pc hasQ hasF query frag en.url oh op on W0 hT0 (fun e he => by rw [List.mem_singleton] at he; rw [he]; exact hsch) (fun W hb => hbare W (hb0.trans (hb.mono hb0.size)))
  rw [ownI_one en on hon] at how
  have c0 : W0.cell? ⟨w.heap.size, 0, none⟩ = some (.string sch) := Lib.cell_of_heap hr 0
  have c1 : W0.cell? ⟨w.heap.size, 1, none⟩ = some (.string user) := Lib.cell_of_heap hr 1
  have c2 : W0.cell? ⟨w.heap.size, 2, none⟩ = some (.string pass) := Lib.cell_of_heap hr 2
  have c3 : W0.cell? ⟨w.heap.size, 3, none⟩ = some (.string host) := Lib.cell_of_heap hr 3
  have c4 : W0.cell? ⟨w.heap.size, 4, none⟩ = some (.bool hasHost) := Lib.cell_of_heap hr 4
  have c5 : W0.cell? ⟨w.heap.size, 5, none⟩ = some (.int .i64 port) := Lib.cell_of_heap hr 5
  have c6 : W0.cell? ⟨w.heap.size, 6, none⟩ = some (.bool opq) := Lib.cell_of_heap hr 6
  have c7 : W0.cell? ⟨w.heap.size, 7, none⟩ = some (.string text) := Lib.cell_of_heap hr 7
  have c8 : W0.cell? ⟨w.heap.size, 8, none⟩ = some (.slice pa pn pc) := Lib.cell_of_heap hr 8
  have c9 : W0.cell? ⟨w.heap.size, 9, none⟩ = some (.bool hasQ) := Lib.cell_of_heap hr 9
  have c10 : W0.cell? ⟨w.heap.size, 10, none⟩ = some (.bool hasF) := Lib.cell_of_heap hr 10
  have c11 : W0.cell? ⟨w.heap.size, 11, none⟩ = some (.string query) := Lib.cell_of_heap hr 11
  have c12 : W0.cell? ⟨w.heap.size, 12, none⟩ = some (.string frag) := Lib.cell_of_heap hr 12
  have b0 : W0.cell? ⟨w.heap.size + 1, 0, none⟩ = some (.string ⟨#[]⟩) := Lib.cell_of_heap hr' 0
  have b1 : W0.cell? ⟨w.heap.size + 1, 1, none⟩ = some (.string oh) := Lib.cell_of_heap hr' 1
  have b2 : W0.cell? ⟨w.heap.size + 1, 2, none⟩ = some (.int .i64 op) := Lib.cell_of_heap hr' 2
  have b3 : W0.cell? ⟨w.heap.size + 1, 3, none⟩ = some (.int .i64 on) := Lib.cell_of_heap hr' 3
  have HT0 := Lib.hid hT0
  have hlw := hT.lt
  clear hr hr' hT hbare hT0 hsch hon
  unfold oriV at how ⊢
  go_enter Tryz.func36, Tryz.ntmps36
  go_wp2_with (rw [HW.out])
  refine how.mono ?_
  rintro e w2 ⟨rfl, hb2⟩
  have hT2 := HT0.out.later hb2
  have HB2 := Lib.hid (hb0.trans (hb2.mono hb0.size))
  clear HW c0 c1 c2 c3 c4 c5 c6 c7 c8 c9 c10 c11 c12 b0 b1 b2 b3 how hb2 hb0
  obtain ⟨hBt, _, lv, hv, ho⟩ := hT2
  rcases ho.2 with ⟨_, h0⟩ | ⟨g, cap, cur, rfl, hBg, hhp, hnc, hm, hs, ht⟩
  · cases h0
  · have hgt : g ≠ sb := by
      rintro rfl
      rw [hv] at hhp
      injection Option.some.inj hhp with _ h2
      exact absurd h2 (by decide)
    have q0 : w2.cell? ⟨sb, 0, none⟩ = some (.slice (some ⟨g, 0, none⟩) 1 cap) := Lib.cell_of_heap hv 0
    have hnc' : 1 ≤ cap := hnc
    have hgl : ∀ j, j < 6 → (w2.cell? ⟨g, j, none⟩).isSome = true := fun j hj => by
      rw [Lib.cell_of_heap hhp j, Array.getElem?_eq_getElem (by omega)]
      rfl
    have hde := sdel1_c g cap w2 hm hnc' hgl (fun j => frozen_of_row w2 g j _ _ hhp)
    have HCL := Lib.hid (fun nq => sdel_close B sb g cap room cur w2 nq hBt hBg hgt hm hs hv hhp)
    have hq : Hid (∀ nq, ((w2.drewN nq).setCells g 0 zs6).cell? ⟨sb, 0, none⟩ = some (.slice (some ⟨g, 0, none⟩) 1 cap) ∧ ((w2.drewN nq).setCells g 0 zs6).frozen? ⟨sb, 0, none⟩ = false) := Lib.hid fun nq => by
      have hvt : ((w2.drewN nq).setCells g 0 zs6).heap[sb]? = some (.cells #[.slice (some ⟨g, 0, none⟩) 1 cap, .int .i64 room] 135 (0, 0)) := by
        rw [setCells_other _ _ _ _ _ (fun e => hgt e.symm)]
        exact hv
      exact ⟨Lib.cell_of_heap hvt 0, frozen_of_row _ sb 0 _ _ hvt⟩
    clear hv ho hhp hs ht hgl
    go_wp2_with fail
    refine hde.mono ?_
    rintro e w3 ⟨rfl, nq, hw3⟩
    obtain ⟨q1, q2⟩ := hq.out nq
    have hc := HCL.out nq
    rw [← hw3] at q1 q2 hc
    have HC := Lib.hid hc
    clear hc hw3 HCL hq
    go_wp2_with fail
    go_ret
    obtain ⟨x1, x2, x3, x4⟩ := HC.out
    exact ⟨rfl, x1, (HB2.out.mono hBw).trans x2, (ty_below HB2.out _).trans x3, (ch_below HB2.out).trans x4⟩
set_option maxRecDepth 100000 in
set_option maxHeartbeats 2000000 in
theorem srev_no (B sb : Nat) (ss : List SEnt) (room : Int) (sch user pass host : ByteArray) (hasHost : Bool) (port : Int) (opq : Bool) (text : ByteArray) (pa : Option Addr) (pn pc : Nat) (hasQ hasF : Bool) (query frag : ByteArray) (s oh : ByteArray) (op on : Int) (w : World) (hT : StoreAt w B sb ss room) (hall : ∀ e ∈ ss, e.sch = ⟨#[]⟩) (hneg : ownI ss s on < 0)
    (hbare : ∀ W, Below w.heap.size w W → Calls Tryz.prog 37 #[.agg #[.string sch, .string user, .string pass, .string host, .bool hasHost, .int .i64 port, .bool opq, .string text, .slice pa pn pc, .bool hasQ, .bool hasF, .string query, .string frag]] W fun e w' => e = .returned (.string s) ∧ Below W.heap.size W w') :
    Calls Tryz.prog 36 #[.pointer (some ⟨sb, 0, none⟩), .agg #[.string sch, .string user, .string pass, .string host, .bool hasHost, .int .i64 port, .bool opq, .string text, .slice pa pn pc, .bool hasQ, .bool hasF, .string query, .string frag], .agg (oriV ⟨#[]⟩ oh op on)] w fun e w' => e = .returned (.bool false) ∧ Below w.heap.size w w' := by
  have hs1 : (w.alloc (.cells #[.string sch, .string user, .string pass, .string host, .bool hasHost, .int .i64 port, .bool opq, .string text, .slice pa pn pc, .bool hasQ, .bool hasF, .string query, .string frag] 41)).heap.size = w.heap.size + 1 := by simp
  have hb0 : Below w.heap.size w ((w.alloc (.cells #[.string sch, .string user, .string pass, .string host, .bool hasHost, .int .i64 port, .bool opq, .string text, .slice pa pn pc, .bool hasQ, .bool hasF, .string query, .string frag] 41)).alloc (.cells (oriV ⟨#[]⟩ oh op on) 23)) := ((Below.refl _ _).alloc (Nat.le_refl _) _).alloc (by rw [hs1]; omega) _
  have hr : ((w.alloc (.cells #[.string sch, .string user, .string pass, .string host, .bool hasHost, .int .i64 port, .bool opq, .string text, .slice pa pn pc, .bool hasQ, .bool hasF, .string query, .string frag] 41)).alloc (.cells (oriV ⟨#[]⟩ oh op on) 23)).heap[w.heap.size]? = some (.cells #[.string sch, .string user, .string pass, .string host, .bool hasHost, .int .i64 port, .bool opq, .string text, .slice pa pn pc, .bool hasQ, .bool hasF, .string query, .string frag] 41 (0, 0)) := by
    rw [Below.heap_alloc _ _ _ (by rw [hs1]; omega)]
    exact heap_last _ _
  have hr' : ((w.alloc (.cells #[.string sch, .string user, .string pass, .string host, .bool hasHost, .int .i64 port, .bool opq, .string text, .slice pa pn pc, .bool hasQ, .bool hasF, .string query, .string frag] 41)).alloc (.cells (oriV ⟨#[]⟩ oh op on) 23)).heap[w.heap.size + 1]? = some (.cells (oriV ⟨#[]⟩ oh op on) 23 (0, 0)) := by
    have := heap_last (w.alloc (.cells #[.string sch, .string user, .string pass, .string host, .bool hasHost, .int .i64 port, .bool opq, .string text, .slice pa pn pc, .bool hasQ, .bool hasF, .string query, .string frag] 41)) (.cells (oriV ⟨#[]⟩ oh op on) 23)
    rw [hs1] at this
    exact this
  obtain ⟨W0, hW0⟩ : ∃ W, W = ((w.alloc (.cells #[.string sch, .string user, .string pass, .string host, .bool hasHost, .int .i64 port, .bool opq, .string text, .slice pa pn pc, .bool hasQ, .bool hasF, .string query, .string frag] 41)).alloc (.cells (oriV ⟨#[]⟩ oh op on) 23)) := ⟨_, rfl⟩
  rw [← hW0] at hr hb0 hr'
  have HW : Hid (((w.alloc (.cells #[.string sch, .string user, .string pass, .string host, .bool hasHost, .int .i64 port, .bool opq, .string text, .slice pa pn pc, .bool hasQ, .bool hasF, .string query, .string frag] 41)).alloc (.cells #[.string ⟨#[]⟩, .string oh, .int .i64 op, .int .i64 on] 23)) = W0) := Lib.hid hW0.symm
  clear hW0 hs1
  have hT0 := hT.later (hb0.mono (Nat.le_refl _))
  have how := own_c B sb ss room sch user pass host hasHost port opq text pa pn pc hasQ hasF query frag s oh op on W0 hT0 hall (fun W hb => hbare W (hb0.trans (hb.mono hb0.size)))
  have c0 : W0.cell? ⟨w.heap.size, 0, none⟩ = some (.string sch) := Lib.cell_of_heap hr 0
  have c1 : W0.cell? ⟨w.heap.size, 1, none⟩ = some (.string user) := Lib.cell_of_heap hr 1
  have c2 : W0.cell? ⟨w.heap.size, 2, none⟩ = some (.string pass) := Lib.cell_of_heap hr 2
  have c3 : W0.cell? ⟨w.heap.size, 3, none⟩ = some (.string host) := Lib.cell_of_heap hr 3
  have c4 : W0.cell? ⟨w.heap.size, 4, none⟩ = some (.bool hasHost) := Lib.cell_of_heap hr 4
  have c5 : W0.cell? ⟨w.heap.size, 5, none⟩ = some (.int .i64 port) := Lib.cell_of_heap hr 5
  have c6 : W0.cell? ⟨w.heap.size, 6, none⟩ = some (.bool opq) := Lib.cell_of_heap hr 6
  have c7 : W0.cell? ⟨w.heap.size, 7, none⟩ = some (.string text) := Lib.cell_of_heap hr 7
  have c8 : W0.cell? ⟨w.heap.size, 8, none⟩ = some (.slice pa pn pc) := Lib.cell_of_heap hr 8
  have c9 : W0.cell? ⟨w.heap.size, 9, none⟩ = some (.bool hasQ) := Lib.cell_of_heap hr 9
  have c10 : W0.cell? ⟨w.heap.size, 10, none⟩ = some (.bool hasF) := Lib.cell_of_heap hr 10
  have c11 : W0.cell? ⟨w.heap.size, 11, none⟩ = some (.string query) := Lib.cell_of_heap hr 11
  have c12 : W0.cell? ⟨w.heap.size, 12, none⟩ = some (.string frag) := Lib.cell_of_heap hr 12
  have b0 : W0.cell? ⟨w.heap.size + 1, 0, none⟩ = some (.string ⟨#[]⟩) := Lib.cell_of_heap hr' 0
  have b1 : W0.cell? ⟨w.heap.size + 1, 1, none⟩ = some (.string oh) := Lib.cell_of_heap hr' 1
  have b2 : W0.cell? ⟨w.heap.size + 1, 2, none⟩ = some (.int .i64 op) := Lib.cell_of_heap hr' 2
  have b3 : W0.cell? ⟨w.heap.size + 1, 3, none⟩ = some (.int .i64 on) := Lib.cell_of_heap hr' 3
  clear hr hr' hT hbare hall hT0
  unfold oriV at how ⊢
  generalize ownI ss s on = at_ at *
  go_enter Tryz.func36, Tryz.ntmps36
  go_wp2_with (rw [HW.out])
  refine how.mono ?_
  rintro e w1 ⟨rfl, hb1⟩
  clear HW c0 c1 c2 c3 c4 c5 c6 c7 c8 c9 c10 c11 c12 b0 b1 b2 b3
  go_wp2_with fail
  go_ret
  exact ⟨rfl, hb0.trans (hb1.mono hb0.size)⟩
end Go.Proofs.YtibgiohijknmbaaGreatDoor
