/-
  Joined texts: RepR.
-/
import Derived.Test.YtibgiohijknmbaaGreatDoorM3
import Derived.Test.YtibgiohijknmbaaGreatDoorM5
import Derived.Test.YtibgiohijknmbaaGreatDoorShelf
import Derived.Test.YtibgiohijknmbaaGreatDoorM2
import Derived.Test.YtibgiohijknmbaaGreatDoorM4
import Derived.Laws.CopyOwn
import Derived.Deep.RegionLaw
import Derived.Deep.QuietTactic
import Derived.BigQuiet
import Derived.IntWalk
/-
  (*byteStringReplacer).Replace.
-/
namespace Go.Proofs.YtibgiohijknmbaaGreatDoor
open Go.RowKit
set_option linter.unusedVariables false
set_option linter.unusedSimpArgs false

/-- What a replacer's table gives to a walk: byte by byte. -/
theorem RepAt.cell {w : World} {B Q : Nat} {ps : Pairs} (h : RepAt w B Q ps) (c : UInt8) : ∃ v, w.cell? ⟨Q, c.toNat, none⟩ = some v ∧ RepCell w v (look ps c) := by
  obtain ⟨hB, cur, vT, h1, h2, h3, h4, h5⟩ := h
  obtain ⟨v, hv, hr⟩ := h3 c
  exact ⟨v, by rw [Lib.cell_of_heap h1, hv], hr⟩
theorem RepAt.olds {w : World} {B Q : Nat} {ps : Pairs} (h : RepAt w B Q ps) (hp : ps ≠ []) : ∃ g cap, w.cell? ⟨Q, 256, none⟩ = some (.slice (some ⟨g, 0, none⟩) ps.length cap) ∧ ps.length ≤ cap ∧ ∀ j, j < ps.length → w.cell? ⟨g, j, none⟩ = some (.string ⟨#[(ps.reverse.getD j (0, [])).1]⟩) := by
  obtain ⟨hB, cur, vT, h1, h2, h3, h4, h5⟩ := h
  have h5' := h5
  have hl : 0 < ps.length := by cases ps with | nil => exact absurd rfl hp | cons _ _ => simp
  rcases h5.2 with ⟨_, h0⟩ | ⟨g, cap, cu, rfl, hb, hh, hn, _⟩
  · omega
  · refine ⟨g, cap, by rw [Lib.cell_of_heap h1, h4], hn, fun j hj => ?_⟩
    have h := h5'.cells (g := g) rfl j (.string ⟨#[(ps.reverse.getD j (0, [])).1]⟩) (by
      unfold oldsV
      rw [List.getElem?_map, List.getD_eq_getElem?_getD, List.getElem?_eq_getElem (by simpa using hj)]
      rfl)
    rwa [addr_add0] at h

theorem look_mem (ps : Pairs) (h : (ps.map (·.1)).Nodup) (p : UInt8 × List UInt8) (hp : p ∈ ps) : look ps p.1 = some p.2 := by
  induction ps with
  | nil => simp at hp
  | cons q t ih =>
    rw [List.map_cons, List.nodup_cons] at h
    rcases List.mem_cons.1 hp with rfl | hp
    · simp [look]
    · have hne : q.1 ≠ p.1 := fun e => h.1 (List.mem_map.2 ⟨p, hp, e.symm⟩)
      have := ih h.2 hp
      unfold look at this ⊢
      rw [List.find?_cons_of_neg (by simpa using hne)]
      exact this
theorem RepAt.below {w w' : World} {B Q : Nat} {ps : Pairs} (h : RepAt w B Q ps) (hb : Below w.heap.size w w') : RepAt w' B Q ps :=
  h.move fun k cells T fz hk _ => hb.block k (Array.getElem?_eq_some_iff.1 hk).1
theorem drewN_below (w : World) (n : Nat) : Below w.heap.size w (w.drewN n) := ⟨rfl, rfl, rfl, Nat.le_refl _, fun _ _ => rfl⟩

theorem take_splice (dst cs : List Value) (J : Nat) (h : J ≤ dst.length) : (splice dst J cs).take (J + cs.length) = dst.take J ++ cs := by
  have hl : (dst.take J).length = J := by rw [List.length_take]; omega
  unfold splice
  rw [← List.append_assoc, List.take_append_of_le_length (by rw [List.length_append]; omega), List.take_of_length_le (by rw [List.length_append]; omega)]

set_option maxRecDepth 100000 in
set_option maxHeartbeats 4000000 in
theorem replace_c (ps : Pairs) (B Q : Nat) (s : ByteArray) (w : World) (hp : ps ≠ []) (hp2 : ps.length ≤ 256) (hnd : (ps.map (·.1)).Nodup) (hlong : ∀ p ∈ ps, p.2.length ≤ 1000) (hs : s.size ≤ 4294967296) (h : RepAt w B Q ps) :
    Calls Tryz.prog 421 #[.pointer (some ⟨Q, 0, none⟩), .string s] w fun e w' => e = .returned (.string ⟨(repL ps s.data.toList).toArray⟩) ∧ Below w.heap.size w w' := by
  obtain ⟨gT, cT, hcT, hcT2, hcT3⟩ := h.olds hp
  have HT : Hid (∀ j, j < ps.length → w.cell? ⟨gT, j, none⟩ = some (.string ⟨#[(ps.reverse.getD j (0, [])).1]⟩)) := hcT3
  have HR : Hid (RepAt w B Q ps) := h
  have HL : Hid (∀ p ∈ ps, p.2.length ≤ 1000) := hlong
  have HN : Hid ((ps.map (·.1)).Nodup) := hnd
  have hl : 0 < ps.length := by cases ps with | nil => exact absurd rfl hp | cons _ _ => simp
  clear hcT3 h hlong hnd hp
  by_cases hA : ps.length * 8 ≤ s.size
  · have hA' : (ps.length : Int) * 8 ≤ (s.size : Int) := by omega
    go_enter Tryz.func421, Tryz.ntmps421
    go_wp2
    go_loopw [5, 6, 32] (fun ns any iv wr => ∃ i : Nat, i ≤ ps.length ∧ iv = .int .i64 i ∧ ns = .int .i64 ((s.size : Int) + gsum (ps.reverse.take i) s.data.toList) ∧ any = .bool (gany (ps.reverse.take i) s.data.toList) ∧ ∃ n, wr = w.drewN n) (fun _ _ iv _ => ps.length - (intOf iv).toNat)
    case atStart => exact ⟨0, Nat.zero_le _, rfl, by simp [gsum], by simp [gany], 0, rfl⟩
    case round =>
      obtain ⟨i, hi, rfl, rfl, rfl, n, rfl⟩ := hrel
      by_cases hlt : i < ps.length
      · have hmem : ps.reverse.getD i (0, []) ∈ ps := by
          rw [← List.mem_reverse, List.getD_eq_getElem?_getD, List.getElem?_eq_getElem (by simpa using hlt)]
          exact List.getElem_mem _
        have hts : ps.reverse.take (i + 1) = ps.reverse.take i ++ [ps.reverse.getD i (0, [])] := by
          rw [List.take_succ_eq_append_getElem (by simpa using hlt), List.getD_eq_getElem?_getD, List.getElem?_eq_getElem (by simpa using hlt)]
          rfl
        have hx := HT.out i hlt
        have hn := HL.out _ hmem
        have hlk := look_mem ps HN.out _ hmem
        have hgb := gsum_bound (ps.reverse.take i) s.data.toList (by rw [← Lib.size_eq]; exact hs) (fun p hp => HL.out p (List.mem_reverse.1 (List.mem_of_mem_take hp)))
        have hgl : (ps.reverse.take i).length ≤ 256 := by rw [List.length_take, List.length_reverse]; omega
        have HG : Hid (gsum (ps.reverse.take (i + 1)) s.data.toList = gsum (ps.reverse.take i) s.data.toList + ((s.data.toList.count (ps.reverse.getD i (0, [])).1 : Nat) : Int) * (((ps.reverse.getD i (0, [])).2.length : Int) - 1)) := by show _ = _; rw [hts, gsum_snoc]
        have HA : Hid (gany (ps.reverse.take (i + 1)) s.data.toList = (gany (ps.reverse.take i) s.data.toList || (s.data.toList.count (ps.reverse.getD i (0, [])).1 != 0))) := by show _ = _; rw [hts, gany_snoc]
        have hcl := List.count_le_length (a := (ps.reverse.getD i (0, [])).1) (l := s.data.toList)
        rw [← Lib.size_eq] at hcl
        clear hts hmem
        generalize gsum (ps.reverse.take i) s.data.toList = gs at *
        generalize gany (ps.reverse.take i) s.data.toList = ga at *
        generalize (ps.reverse.take i).length = lt at *
        generalize ps.reverse.getD i (0, []) = p at *
        obtain ⟨o, nn⟩ := p
        dsimp only at hx hn hlk hcl HG HA
        obtain ⟨v, hcv, hrc⟩ := HR.out.cell o
        rw [hlk] at hrc
        obtain ⟨gv, capv, rfl, hv1, hv2, _, _⟩ := hrc
        clear hlk
        have hC : Calls Tryz.prog 182 #[.string s, .string ⟨#[o]⟩] (w.drewN n) fun e w' => e = .returned (.int .i64 (s.data.toList.count o)) ∧ w' = w.drewN n := Tryz.strings_Count_one s o _
        have hmb := mul_bound ((s.data.toList.count o : Nat) : Int) ((nn.length : Int) - 1) 4294967296 (by omega) (by omega) (by omega) (by omega)
        generalize s.data.toList.count o = cnt at *
        by_cases hc0 : cnt = 0
        · subst hc0
          go_wp2_with (go_at_call 182; refine hC.mono ?_; rintro e w' ⟨rfl, rfl⟩)
          have eG : gsum (ps.reverse.take (i + 1)) s.data.toList = gs := by rw [HG.out]; simp
          have eA : gany (ps.reverse.take (i + 1)) s.data.toList = ga := by rw [HA.out]; simp
          exact ⟨⟨i + 1, by omega, by go_num, by rw [eG], by rw [eA], n, rfl⟩, by simp [intOf]; omega⟩
        · have hcb : ((cnt : Int) != 0) = true := by simp; omega
          have hget : ∀ h : 0 < (⟨#[o]⟩ : ByteArray).size, (⟨#[o]⟩ : ByteArray)[0]'h = o := fun _ => rfl
          have ho := o.toNat_lt
          have e2 : IntKind.i64.wrap ((cnt : Int) * ((nn.length : Int) - 1)) = (cnt : Int) * ((nn.length : Int) - 1) := by rw [IntKind.wrap_i64]; omega
          have e3 : IntKind.i64.wrap ((s.size : Int) + gs + (cnt : Int) * ((nn.length : Int) - 1)) = (s.size : Int) + gs + (cnt : Int) * ((nn.length : Int) - 1) := by rw [IntKind.wrap_i64]; omega
          go_wp2_with (go_at_call 182; refine hC.mono ?_; rintro e w' ⟨rfl, rfl⟩)
          go_quiet (fail)
          go_wp2
          have eA : gany (ps.reverse.take (i + 1)) s.data.toList = true := by
            rw [HA.out, Bool.or_eq_true]
            exact .inr (bne_iff_ne.2 hc0)
          exact ⟨⟨i + 1, by omega, by go_num, by rw [HG.out, Int.add_assoc], by rw [eA], n + nq, rfl⟩, by simp [intOf]; omega⟩
      · obtain rfl : i = ps.length := by omega
        have e1 : gsum (ps.reverse.take ps.length) s.data.toList = gain ps s.data.toList := by
          rw [List.take_of_length_le (by simp), gsum_reverse, gain_gsum ps HN.out]
        have e2 : gany (ps.reverse.take ps.length) s.data.toList = chg ps s.data.toList := by
          rw [List.take_of_length_le (by simp), gany_reverse, chg_gany]
        have hlt' : ¬ ((ps.length : Int) < (ps.length : Int)) := by omega
        rw [e1, e2]
        clear e1 e2 hlt hi
        have hb0 := drewN_below w n
        generalize w.drewN n = W0 at *
        cases hch : chg ps s.data.toList with
        | false =>
          have HO : Hid (repL ps s.data.toList = s.data.toList) := chg_false ps _ hch
          clear hch
          go_wp2
          go_ret
          exact ⟨ret_s (by rw [HO.out]), hb0⟩
        | true =>
          obtain ⟨N, hN⟩ : ∃ N, (repL ps s.data.toList).length = N := ⟨_, rfl⟩
          have hNle := repL_le ps HL.out s.data.toList
          rw [hN, ← Lib.size_eq] at hNle
          have e3 : (s.size : Int) + gain ps s.data.toList = (N : Int) := by
            unfold gain
            rw [hN, ← Lib.size_eq]
            omega
          rw [e3]
          have HNN : Hid ((repL ps s.data.toList).length = N) := hN
          clear e3 hN hch
          obtain ⟨i0, hi0, hz0, hz1, hz2⟩ := info_parts binfo
          obtain ⟨W2, hmk, hownF, hgrF⟩ := run_make_full (P := Tryz.prog) W0 w.heap.size 29 5 i0 (.int .u8 0) 1 Tryz.underlying29 hi0 hz0 hz1 .i64 .i64 N (by rw [hz2]; omega) (by unfold maxLen; omega) hb0.size
          obtain ⟨dst0, hd0, hd0l, hBfb⟩ : ∃ dst : List Value, W2.heap[W0.heap.size]? = some (.cells dst.toArray 5 (0, 0)) ∧ dst.length = N ∧ w.heap.size ≤ W0.heap.size := by
            rcases hownF.2 with ⟨h, _⟩ | ⟨g, cap, cur, hv, hb, hh, _, _, hs, _⟩
            · simp at h
            · simp only [Value.slice.injEq, Option.some.injEq, Addr.mk.injEq] at hv
              obtain ⟨⟨rfl, _⟩, _, rfl⟩ := hv
              exact ⟨cur.toList, by simpa using hh, by simpa using hs, hb⟩
          have hb2 : Below w.heap.size w W2 := hb0.grown hgrF hb0.size (by simp)
          have H0 : Hid (W2.heap[W0.heap.size]? = some (.cells dst0.toArray 5 (0, 0))) := hd0
          clear hd0 hownF hgrF
          go_wp2
          clear hmk
          go_loopw [13, 14] (fun jv iv wr => ∃ (k : Nat) (dst : List Value), k ≤ s.size ∧ iv = .int .i64 k ∧ jv = .int .i64 (((repL ps (s.data.toList.take k)).length : Nat) : Int) ∧ Hid (wr.heap[W0.heap.size]? = some (.cells dst.toArray 5 (0, 0))) ∧ dst.length = N ∧ Hid (dst.take (repL ps (s.data.toList.take k)).length = byteV (repL ps (s.data.toList.take k))) ∧ Below w.heap.size w wr) (fun _ iv _ => s.size - (intOf iv).toNat)
          case atStart => exact ⟨0, dst0, Nat.zero_le _, rfl, by simp [repL], H0, hd0l, by show _ = _; simp [repL, byteV], hb2⟩
          case round =>
            obtain ⟨k, dst, hk, rfl, rfl, hheap, hdl, hdt, hbl⟩ := hrel
            clear H0 hb2 hd0l
            by_cases hlt : k < s.size
            · have hlt2 : k < s.data.toList.length := by rw [← Lib.size_eq]; exact hlt
              have hts : s.data.toList.take (k + 1) = s.data.toList.take k ++ [s[k]'hlt] := by
                rw [List.take_succ_eq_append_getElem hlt2]
                rfl
              have HREP : Hid (repL ps (s.data.toList.take (k + 1)) = repL ps (s.data.toList.take k) ++ rep1 ps (s[k]'hlt)) := by show _ = _; rw [hts, repL_append, repL_one]
              have hle := repL_take_le ps s.data.toList k hlt2
              have hgk : s.data.toList.getD k 0 = s[k]'hlt := by
                rw [List.getD_eq_getElem?_getD, List.getElem?_eq_getElem hlt2]
                rfl
              rw [HNN.out, hgk] at hle
              obtain ⟨v, hcv0, hrc⟩ := HR.out.cell (s[k]'hlt)
              have hQlt : Q < w.heap.size := by
                obtain ⟨_, cur, vT, h1, _⟩ := HR.out
                exact (Array.getElem?_eq_some_iff.1 h1).1
              have hcv : wr.cell? ⟨Q, (s[k]'hlt).toNat, none⟩ = some v := (hbl.cell (p := ⟨Q, (s[k]'hlt).toNat, none⟩) hQlt).trans hcv0
              have hx := (s[k]'hlt).toNat_lt
              have hneq := fun (W : World) (a : Option Addr) (n c : Nat) => run_neq_slice_nil_any (P := Tryz.prog) W 29 5 a n c 0 0 Tryz.underlying29
              clear hts hgk hcv0
              generalize repL ps (s.data.toList.take k) = done at *
              cases hlk : look ps (s[k]'hlt) with
              | none =>
                have hr1 : rep1 ps (s[k]'hlt) = [s[k]'hlt] := by unfold rep1; rw [hlk]; rfl
                rw [hlk] at hrc
                rw [hr1] at hle
                have HR1 : Hid (repL ps (s.data.toList.take (k + 1)) = done ++ [s[k]'hlt]) := by show _ = _; rw [HREP.out, hr1]
                have hv : v = .slice none 0 0 := hrc
                subst hv
                have hj : done.length < dst.length := by rw [hdl]; simp at hle; omega
                have hj2 : done.length < N := by omega
                have d1 : wr.cell? ⟨W0.heap.size, done.length, none⟩ = some dst[done.length] := by
                  rw [Lib.cell_of_heap hheap.out]
                  simp [hj]
                have d2 : wr.frozen? ⟨W0.heap.size, done.length, none⟩ = false := Lib.frozen_of_heap hheap.out _
                have hle2 : (done.length : Int) + 1 ≤ N := by omega
                generalize dst[done.length] = vold at d1
                clear hlk hr1 hrc hle HREP
                go_wp2
                refine ⟨⟨k + 1, dst.set done.length (.int .u8 ((s[k]'hlt).toNat : Int)), by omega, by go_num, ?_, ?_, by rw [List.length_set]; exact hdl, ?_, hbl.setCell (p := ⟨W0.heap.size, done.length, none⟩) hBfb _⟩, by simp [intOf]; omega⟩
                · rw [HR1.out]
                  simp
                · have := heap_setCell_same wr W0.heap.size done.length _ _ (.int .u8 ((s[k]'hlt).toNat : Int)) hheap.out
                  show _ = _
                  rw [this]
                  simp
                · show _ = _
                  rw [HR1.out, List.length_append, List.length_singleton, take_set_snoc _ _ _ hj, hdt.out]
                  simp [byteV]
              | some nn =>
                have hr1 : rep1 ps (s[k]'hlt) = nn := by unfold rep1; rw [hlk]; rfl
                have hnl := look_long ps _ nn HL.out hlk
                rw [hlk] at hrc
                rw [hr1] at hle
                have HR1 : Hid (repL ps (s.data.toList.take (k + 1)) = done ++ nn) := by show _ = _; rw [HREP.out, hr1]
                obtain ⟨gv, capv, hv, hv1, hv2, hby, cells, fz, hgc⟩ := hrc
                subst hv
                have hgvlt := (Array.getElem?_eq_some_iff.1 hgc).1
                have HBY : Hid (∀ j v, (byteV nn)[j]? = some v → wr.cell? ((⟨gv, 0, none⟩ : Addr).add j) = some v) := fun j v hj => by
                  rw [addr_add0, hbl.cell (p := ⟨gv, j, none⟩) hgvlt]
                  have hjl : j < nn.length := by
                    have := (List.getElem?_eq_some_iff.1 hj).1
                    simpa [byteV] using this
                  have := hby j hjl
                  rw [Nat.zero_add] at this
                  rw [this, ← hj]
                  simp [byteV, hjl, List.getD_eq_getElem?_getD]
                have hsz1 : (Tryz.prog.info? 5).map (·.size) = some 1 := by kernel_rfl
                clear hlk hr1 HREP hby hgc
                have hj2 : done.length ≤ N := by omega
                have hle2 : (done.length : Int) + nn.length ≤ N := by omega
                by_cases hJN : N = done.length
                · subst hJN
                  obtain rfl : nn = [] := List.length_eq_zero_iff.1 (by omega)
                  have hx8 : ((s[k]'hlt).toNat : Int) < 256 := by omega
                  have hx0 : (0 : Int) ≤ ((s[k]'hlt).toNat : Int) := by omega
                  have hmin : Hid (([] : List Value).length = Nat.min 0 0) := rfl
                  have hfit : Hid (done.length + ([] : List Value).length ≤ dst.length) := by show _ ≤ _; rw [hdl]; exact Nat.le_refl _
                  have hone : Hid (∀ v ∈ ([] : List Value), v.oneCell' = true) := fun v hv => by simp at hv
                  have hno : Hid (0 < ([] : List Value).length → (some (⟨W0.heap.size, 0, none⟩ : Addr)) = some ⟨W0.heap.size, done.length, none⟩ ∧ ∃ ad, (some (⟨gv, 0, none⟩ : Addr)) = some ad ∧ ∀ j v, ([] : List Value)[j]? = some v → wr.drew.cell? (ad.add j) = some v) := fun h => by simp at h
                  have hbd : Below w.heap.size w wr.drew := hbl.drew
                  go_wp2
                  go_region_law (refine step_copy_splice rfl (.tmp 105) (.tmp 111) 29 29 rfl 5 Tryz.underlying29 hsz1 (some ⟨W0.heap.size, 0, none⟩) (some ⟨gv, 0, none⟩) 0 0 0 capv (by simp [Act.eval, Act.put]) (by simp [Act.eval, Act.put]) W0.heap.size done.length dst 5 hheap.out [] hmin.out hno.out hfit.out hone.out w.heap.size w hbd hBfb ?_; intro w5 hh5 hb5)
                  all_goals
                    clear hheap hbl hbd HBY hno
                    go_wp2
                    refine ⟨⟨k + 1, splice dst done.length [], by omega, by go_num, ?_, hh5, ?_, ?_, hb5⟩, by simp [intOf]; try omega⟩
                    · rw [HR1.out, List.append_nil]
                    · rw [length_splice _ _ _ hfit.out]
                      exact hdl
                    · show _ = _
                      have h := take_splice dst [] done.length (by have := hfit.out; simpa using this)
                      rw [HR1.out, List.append_nil]
                      simpa [hdt.out] using h
                · have hx8 : ((s[k]'hlt).toNat : Int) < 256 := by omega
                  have hx0 : (0 : Int) ≤ ((s[k]'hlt).toNat : Int) := by omega
                  have hmin : Hid ((byteV nn).length = Nat.min nn.length (N - done.length)) := by show _ = _; rw [byteV_length]; exact (Nat.min_eq_left (by omega)).symm
                  have hfit : Hid (done.length + (byteV nn).length ≤ dst.length) := by show _ ≤ _; rw [byteV_length, hdl]; omega
                  have hone : Hid (∀ v ∈ byteV nn, v.oneCell' = true) := fun v hv => by obtain ⟨b, _, rfl⟩ := List.mem_map.1 hv; rfl
                  have HBYd : Hid (∀ j v, (byteV nn)[j]? = some v → wr.drew.cell? ((⟨gv, 0, none⟩ : Addr).add j) = some v) := fun j v hj => by rw [World.cell?_drew]; exact HBY.out j v hj
                  have hbd : Below w.heap.size w wr.drew := hbl.drew
                  go_wp2
                  go_region_law (refine step_copy_splice rfl (.tmp 105) (.tmp 111) 29 29 rfl 5 Tryz.underlying29 hsz1 (some ⟨W0.heap.size, done.length, none⟩) (some ⟨gv, 0, none⟩) (N - done.length) (N - done.length) nn.length capv (by simp [Act.eval, Act.put]) (by simp [Act.eval, Act.put]) W0.heap.size done.length dst 5 hheap.out (byteV nn) hmin.out (fun _ => ⟨rfl, _, rfl, HBYd.out⟩) hfit.out hone.out w.heap.size w hbd hBfb ?_; intro w5 hh5 hb5)
                  all_goals
                    clear hheap hbl hbd HBY HBYd
                    go_wp2
                    refine ⟨⟨k + 1, splice dst done.length (byteV nn), by omega, by go_num, ?_, hh5, ?_, ?_, hb5⟩, by simp [intOf]; omega⟩
                    · rw [HR1.out, byteV_length, List.length_append]
                      congr 1
                      unfold wrap64
                      omega
                    · rw [length_splice _ _ _ hfit.out]
                      exact hdl
                    · show _ = _
                      rw [HR1.out, List.length_append, ← byteV_length nn, take_splice _ _ _ (by have := hfit.out; omega), hdt.out, byteV_append]
            · obtain rfl : k = s.size := by omega
              have e0 : s.data.toList.take s.size = s.data.toList := by rw [Lib.size_eq, List.take_length]
              rw [e0] at hdt ⊢
              have hfull : dst = byteV (repL ps s.data.toList) := by
                have := hdt.out
                rw [HNN.out, List.take_of_length_le (by omega)] at this
                exact this
              have hcv := fun cap => run_convert_bytes_arg (P := Tryz.prog) wr 29 5 Tryz.underlying29 Tryz.underlying5 W0.heap.size 0 N cap ((repL ps s.data.toList).map fun b => ((b.toNat : Nat) : Int)) (by rw [List.length_map]; exact HNN.out) (fun i hi => by
                rw [Nat.zero_add, Lib.cell_of_heap hheap.out, hfull]
                have hi' : i < (repL ps s.data.toList).length := by rw [HNN.out]; exact hi
                simp [byteV, hi', List.getD_eq_getElem?_getD]) 9 Tryz.underlying9
              rw [strOfNums_bytes] at hcv
              have hlt' : ¬ ((s.size : Int) < (s.size : Int)) := by omega
              clear hlt hk e0 hfull hdt hdl
              go_wp2
              go_ret
              exact ⟨rfl, hbl⟩
  · have hA' : ¬ ((ps.length : Int) * 8 ≤ (s.size : Int)) := by omega
    go_enter Tryz.func421, Tryz.ntmps421
    go_wp2
    go_loop [5, 6, 10] (fun ns any iv => ∃ i : Nat, i ≤ s.size ∧ iv = .int .i64 i ∧ ns = .int .i64 ((s.size : Int) + gain ps (s.data.toList.take i)) ∧ any = .bool (chg ps (s.data.toList.take i))) (fun _ _ iv => s.size - (intOf iv).toNat)
    case atStart => exact ⟨0, Nat.zero_le _, rfl, by simp [gain, repL], by simp [chg]⟩
    case round =>
      obtain ⟨i, hi, rfl, rfl, rfl⟩ := hrel
      by_cases hlt : i < s.size
      · have hlt2 : i < s.data.toList.length := by rw [← Lib.size_eq]; exact hlt
        have hts : s.data.toList.take (i + 1) = s.data.toList.take i ++ [(s[i]'hlt)] := by
          rw [List.take_succ_eq_append_getElem hlt2]
          rfl
        have HG : Hid (gain ps (s.data.toList.take (i + 1)) = gain ps (s.data.toList.take i) + (((rep1 ps (s[i]'hlt)).length : Int) - 1)) := by show _ = _; rw [hts, gain_snoc]
        have HA : Hid (chg ps (s.data.toList.take (i + 1)) = (chg ps (s.data.toList.take i) || (look ps (s[i]'hlt)).isSome)) := by show _ = _; rw [hts, chg_snoc]
        have hrl := repL_le ps HL.out (s.data.toList.take i)
        have hgd : gain ps (s.data.toList.take i) = ((repL ps (s.data.toList.take i)).length : Int) - ((s.data.toList.take i).length : Int) := rfl
        have hlen : (s.data.toList.take i).length = i := by rw [List.length_take]; omega
        rw [hlen] at hrl hgd
        have hgb : -(i : Int) ≤ gain ps (s.data.toList.take i) ∧ gain ps (s.data.toList.take i) ≤ 999 * (i : Int) := by omega
        clear hts hrl hgd hlen hlt2
        obtain ⟨v, hcv, hrc⟩ := HR.out.cell (s[i]'hlt)
        have hneq := fun (W : World) (a : Option Addr) (n c : Nat) => run_neq_slice_nil_any (P := Tryz.prog) W 29 5 a n c 0 0 Tryz.underlying29
        have hx := (s[i]'hlt).toNat_lt
        generalize gain ps (s.data.toList.take i) = gs at *
        generalize chg ps (s.data.toList.take i) = ga at *
        cases hlk : look ps (s[i]'hlt) with
        | none =>
          rw [hlk] at hrc HA
          have eG : gain ps (s.data.toList.take (i + 1)) = gs := by
            rw [HG.out]
            have : (rep1 ps (s[i]'hlt)).length = 1 := by unfold rep1; rw [hlk]; rfl
            omega
          have HG2 : Hid (gain ps (s.data.toList.take (i + 1)) = gs) := eG
          have hrc' : v = .slice none 0 0 := hrc
          subst hrc'
          clear hlk eG hrc HG
          go_wp2
          exact ⟨⟨i + 1, by omega, by go_num, by rw [HG2.out], by rw [HA.out]; simp⟩, by simp [intOf]; omega⟩
        | some nn =>
          rw [hlk] at hrc HA
          have hnl := look_long ps _ nn HL.out hlk
          have eG : gain ps (s.data.toList.take (i + 1)) = gs + ((nn.length : Int) - 1) := by
            rw [HG.out]
            have : (rep1 ps (s[i]'hlt)).length = nn.length := by unfold rep1; rw [hlk]; rfl
            omega
          have HG2 : Hid (gain ps (s.data.toList.take (i + 1)) = gs + ((nn.length : Int) - 1)) := eG
          obtain ⟨gv, capv, hv, hv1, hv2, _, _⟩ := hrc
          subst hv
          clear hlk eG HG
          go_wp2
          exact ⟨⟨i + 1, by omega, by go_num, by rw [HG2.out, Int.add_assoc], by rw [HA.out]; simp⟩, by simp [intOf]; omega⟩
      · obtain rfl : i = s.size := by omega
        have e0 : s.data.toList.take s.size = s.data.toList := by rw [Lib.size_eq, List.take_length]
        have hlt' : ¬ ((s.size : Int) < (s.size : Int)) := by omega
        rw [e0]
        clear e0 hlt hi
        have hb0 := Below.refl w.heap.size w
        cases hch : chg ps s.data.toList with
        | false =>
          have HO : Hid (repL ps s.data.toList = s.data.toList) := chg_false ps _ hch
          clear hch
          go_wp2
          go_ret
          exact ⟨ret_s (by rw [HO.out]), hb0⟩
        | true =>
          obtain ⟨N, hN⟩ : ∃ N, (repL ps s.data.toList).length = N := ⟨_, rfl⟩
          have hNle := repL_le ps HL.out s.data.toList
          rw [hN, ← Lib.size_eq] at hNle
          have e3 : (s.size : Int) + gain ps s.data.toList = (N : Int) := by
            unfold gain
            rw [hN, ← Lib.size_eq]
            omega
          rw [e3]
          have HNN : Hid ((repL ps s.data.toList).length = N) := hN
          clear e3 hN hch
          obtain ⟨i0, hi0, hz0, hz1, hz2⟩ := info_parts binfo
          obtain ⟨W2, hmk, hownF, hgrF⟩ := run_make_full (P := Tryz.prog) w w.heap.size 29 5 i0 (.int .u8 0) 1 Tryz.underlying29 hi0 hz0 hz1 .i64 .i64 N (by rw [hz2]; omega) (by unfold maxLen; omega) hb0.size
          obtain ⟨dst0, hd0, hd0l, hBfb⟩ : ∃ dst : List Value, W2.heap[w.heap.size]? = some (.cells dst.toArray 5 (0, 0)) ∧ dst.length = N ∧ w.heap.size ≤ w.heap.size := by
            rcases hownF.2 with ⟨h, _⟩ | ⟨g, cap, cur, hv, hb, hh, _, _, hs, _⟩
            · simp at h
            · simp only [Value.slice.injEq, Option.some.injEq, Addr.mk.injEq] at hv
              obtain ⟨⟨rfl, _⟩, _, rfl⟩ := hv
              exact ⟨cur.toList, by simpa using hh, by simpa using hs, hb⟩
          have hb2 : Below w.heap.size w W2 := hb0.grown hgrF hb0.size (by simp)
          have H0 : Hid (W2.heap[w.heap.size]? = some (.cells dst0.toArray 5 (0, 0))) := hd0
          clear hd0 hownF hgrF
          go_wp2
          clear hmk
          go_loopw [13, 14] (fun jv iv wr => ∃ (k : Nat) (dst : List Value), k ≤ s.size ∧ iv = .int .i64 k ∧ jv = .int .i64 (((repL ps (s.data.toList.take k)).length : Nat) : Int) ∧ Hid (wr.heap[w.heap.size]? = some (.cells dst.toArray 5 (0, 0))) ∧ dst.length = N ∧ Hid (dst.take (repL ps (s.data.toList.take k)).length = byteV (repL ps (s.data.toList.take k))) ∧ Below w.heap.size w wr) (fun _ iv _ => s.size - (intOf iv).toNat)
          case atStart => exact ⟨0, dst0, Nat.zero_le _, rfl, by simp [repL], H0, hd0l, by show _ = _; simp [repL, byteV], hb2⟩
          case round =>
            obtain ⟨k, dst, hk, rfl, rfl, hheap, hdl, hdt, hbl⟩ := hrel
            clear H0 hb2 hd0l
            by_cases hlt : k < s.size
            · have hlt2 : k < s.data.toList.length := by rw [← Lib.size_eq]; exact hlt
              have hts : s.data.toList.take (k + 1) = s.data.toList.take k ++ [s[k]'hlt] := by
                rw [List.take_succ_eq_append_getElem hlt2]
                rfl
              have HREP : Hid (repL ps (s.data.toList.take (k + 1)) = repL ps (s.data.toList.take k) ++ rep1 ps (s[k]'hlt)) := by show _ = _; rw [hts, repL_append, repL_one]
              have hle := repL_take_le ps s.data.toList k hlt2
              have hgk : s.data.toList.getD k 0 = s[k]'hlt := by
                rw [List.getD_eq_getElem?_getD, List.getElem?_eq_getElem hlt2]
                rfl
              rw [HNN.out, hgk] at hle
              obtain ⟨v, hcv0, hrc⟩ := HR.out.cell (s[k]'hlt)
              have hQlt : Q < w.heap.size := by
                obtain ⟨_, cur, vT, h1, _⟩ := HR.out
                exact (Array.getElem?_eq_some_iff.1 h1).1
              have hcv : wr.cell? ⟨Q, (s[k]'hlt).toNat, none⟩ = some v := (hbl.cell (p := ⟨Q, (s[k]'hlt).toNat, none⟩) hQlt).trans hcv0
              have hx := (s[k]'hlt).toNat_lt
              have hneq := fun (W : World) (a : Option Addr) (n c : Nat) => run_neq_slice_nil_any (P := Tryz.prog) W 29 5 a n c 0 0 Tryz.underlying29
              clear hts hgk hcv0
              generalize repL ps (s.data.toList.take k) = done at *
              cases hlk : look ps (s[k]'hlt) with
              | none =>
                have hr1 : rep1 ps (s[k]'hlt) = [s[k]'hlt] := by unfold rep1; rw [hlk]; rfl
                rw [hlk] at hrc
                rw [hr1] at hle
                have HR1 : Hid (repL ps (s.data.toList.take (k + 1)) = done ++ [s[k]'hlt]) := by show _ = _; rw [HREP.out, hr1]
                have hv : v = .slice none 0 0 := hrc
                subst hv
                have hj : done.length < dst.length := by rw [hdl]; simp at hle; omega
                have hj2 : done.length < N := by omega
                have d1 : wr.cell? ⟨w.heap.size, done.length, none⟩ = some dst[done.length] := by
                  rw [Lib.cell_of_heap hheap.out]
                  simp [hj]
                have d2 : wr.frozen? ⟨w.heap.size, done.length, none⟩ = false := Lib.frozen_of_heap hheap.out _
                have hle2 : (done.length : Int) + 1 ≤ N := by omega
                generalize dst[done.length] = vold at d1
                clear hlk hr1 hrc hle HREP
                go_wp2
                refine ⟨⟨k + 1, dst.set done.length (.int .u8 ((s[k]'hlt).toNat : Int)), by omega, by go_num, ?_, ?_, by rw [List.length_set]; exact hdl, ?_, hbl.setCell (p := ⟨w.heap.size, done.length, none⟩) hBfb _⟩, by simp [intOf]; omega⟩
                · rw [HR1.out]
                  simp
                · have := heap_setCell_same wr w.heap.size done.length _ _ (.int .u8 ((s[k]'hlt).toNat : Int)) hheap.out
                  show _ = _
                  rw [this]
                  simp
                · show _ = _
                  rw [HR1.out, List.length_append, List.length_singleton, take_set_snoc _ _ _ hj, hdt.out]
                  simp [byteV]
              | some nn =>
                have hr1 : rep1 ps (s[k]'hlt) = nn := by unfold rep1; rw [hlk]; rfl
                have hnl := look_long ps _ nn HL.out hlk
                rw [hlk] at hrc
                rw [hr1] at hle
                have HR1 : Hid (repL ps (s.data.toList.take (k + 1)) = done ++ nn) := by show _ = _; rw [HREP.out, hr1]
                obtain ⟨gv, capv, hv, hv1, hv2, hby, cells, fz, hgc⟩ := hrc
                subst hv
                have hgvlt := (Array.getElem?_eq_some_iff.1 hgc).1
                have HBY : Hid (∀ j v, (byteV nn)[j]? = some v → wr.cell? ((⟨gv, 0, none⟩ : Addr).add j) = some v) := fun j v hj => by
                  rw [addr_add0, hbl.cell (p := ⟨gv, j, none⟩) hgvlt]
                  have hjl : j < nn.length := by
                    have := (List.getElem?_eq_some_iff.1 hj).1
                    simpa [byteV] using this
                  have := hby j hjl
                  rw [Nat.zero_add] at this
                  rw [this, ← hj]
                  simp [byteV, hjl, List.getD_eq_getElem?_getD]
                have hsz1 : (Tryz.prog.info? 5).map (·.size) = some 1 := by kernel_rfl
                clear hlk hr1 HREP hby hgc
                have hj2 : done.length ≤ N := by omega
                have hle2 : (done.length : Int) + nn.length ≤ N := by omega
                by_cases hJN : N = done.length
                · subst hJN
                  obtain rfl : nn = [] := List.length_eq_zero_iff.1 (by omega)
                  have hx8 : ((s[k]'hlt).toNat : Int) < 256 := by omega
                  have hx0 : (0 : Int) ≤ ((s[k]'hlt).toNat : Int) := by omega
                  have hmin : Hid (([] : List Value).length = Nat.min 0 0) := rfl
                  have hfit : Hid (done.length + ([] : List Value).length ≤ dst.length) := by show _ ≤ _; rw [hdl]; exact Nat.le_refl _
                  have hone : Hid (∀ v ∈ ([] : List Value), v.oneCell' = true) := fun v hv => by simp at hv
                  have hno : Hid (0 < ([] : List Value).length → (some (⟨w.heap.size, 0, none⟩ : Addr)) = some ⟨w.heap.size, done.length, none⟩ ∧ ∃ ad, (some (⟨gv, 0, none⟩ : Addr)) = some ad ∧ ∀ j v, ([] : List Value)[j]? = some v → wr.drew.cell? (ad.add j) = some v) := fun h => by simp at h
                  have hbd : Below w.heap.size w wr.drew := hbl.drew
                  go_wp2
                  go_region_law (refine step_copy_splice rfl (.tmp 105) (.tmp 111) 29 29 rfl 5 Tryz.underlying29 hsz1 (some ⟨w.heap.size, 0, none⟩) (some ⟨gv, 0, none⟩) 0 0 0 capv (by simp [Act.eval, Act.put]) (by simp [Act.eval, Act.put]) w.heap.size done.length dst 5 hheap.out [] hmin.out hno.out hfit.out hone.out w.heap.size w hbd hBfb ?_; intro w5 hh5 hb5)
                  all_goals
                    clear hheap hbl hbd HBY hno
                    go_wp2
                    refine ⟨⟨k + 1, splice dst done.length [], by omega, by go_num, ?_, hh5, ?_, ?_, hb5⟩, by simp [intOf]; try omega⟩
                    · rw [HR1.out, List.append_nil]
                    · rw [length_splice _ _ _ hfit.out]
                      exact hdl
                    · show _ = _
                      have h := take_splice dst [] done.length (by have := hfit.out; simpa using this)
                      rw [HR1.out, List.append_nil]
                      simpa [hdt.out] using h
                · have hx8 : ((s[k]'hlt).toNat : Int) < 256 := by omega
                  have hx0 : (0 : Int) ≤ ((s[k]'hlt).toNat : Int) := by omega
                  have hmin : Hid ((byteV nn).length = Nat.min nn.length (N - done.length)) := by show _ = _; rw [byteV_length]; exact (Nat.min_eq_left (by omega)).symm
                  have hfit : Hid (done.length + (byteV nn).length ≤ dst.length) := by show _ ≤ _; rw [byteV_length, hdl]; omega
                  have hone : Hid (∀ v ∈ byteV nn, v.oneCell' = true) := fun v hv => by obtain ⟨b, _, rfl⟩ := List.mem_map.1 hv; rfl
                  have HBYd : Hid (∀ j v, (byteV nn)[j]? = some v → wr.drew.cell? ((⟨gv, 0, none⟩ : Addr).add j) = some v) := fun j v hj => by rw [World.cell?_drew]; exact HBY.out j v hj
                  have hbd : Below w.heap.size w wr.drew := hbl.drew
                  go_wp2
                  go_region_law (refine step_copy_splice rfl (.tmp 105) (.tmp 111) 29 29 rfl 5 Tryz.underlying29 hsz1 (some ⟨w.heap.size, done.length, none⟩) (some ⟨gv, 0, none⟩) (N - done.length) (N - done.length) nn.length capv (by simp [Act.eval, Act.put]) (by simp [Act.eval, Act.put]) w.heap.size done.length dst 5 hheap.out (byteV nn) hmin.out (fun _ => ⟨rfl, _, rfl, HBYd.out⟩) hfit.out hone.out w.heap.size w hbd hBfb ?_; intro w5 hh5 hb5)
                  all_goals
                    clear hheap hbl hbd HBY HBYd
                    go_wp2
                    refine ⟨⟨k + 1, splice dst done.length (byteV nn), by omega, by go_num, ?_, hh5, ?_, ?_, hb5⟩, by simp [intOf]; omega⟩
                    · rw [HR1.out, byteV_length, List.length_append]
                      congr 1
                      unfold wrap64
                      omega
                    · rw [length_splice _ _ _ hfit.out]
                      exact hdl
                    · show _ = _
                      rw [HR1.out, List.length_append, ← byteV_length nn, take_splice _ _ _ (by have := hfit.out; omega), hdt.out, byteV_append]
            · obtain rfl : k = s.size := by omega
              have e0 : s.data.toList.take s.size = s.data.toList := by rw [Lib.size_eq, List.take_length]
              rw [e0] at hdt ⊢
              have hfull : dst = byteV (repL ps s.data.toList) := by
                have := hdt.out
                rw [HNN.out, List.take_of_length_le (by omega)] at this
                exact this
              have hcv := fun cap => run_convert_bytes_arg (P := Tryz.prog) wr 29 5 Tryz.underlying29 Tryz.underlying5 w.heap.size 0 N cap ((repL ps s.data.toList).map fun b => ((b.toNat : Nat) : Int)) (by rw [List.length_map]; exact HNN.out) (fun i hi => by
                rw [Nat.zero_add, Lib.cell_of_heap hheap.out, hfull]
                have hi' : i < (repL ps s.data.toList).length := by rw [HNN.out]; exact hi
                simp [byteV, hi', List.getD_eq_getElem?_getD]) 9 Tryz.underlying9
              rw [strOfNums_bytes] at hcv
              have hlt' : ¬ ((s.size : Int) < (s.size : Int)) := by omega
              clear hlt hk e0 hfull hdt hdl
              go_wp2
              go_ret
              exact ⟨rfl, hbl⟩
end Go.Proofs.YtibgiohijknmbaaGreatDoor
