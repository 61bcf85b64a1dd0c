/-
  Joined texts: BareF, Prt, Seg, Fine.
-/
import Derived.Test.YtibgiohijknmbaaGreatDoorM12
import Derived.Test.YtibgiohijknmbaaGreatDoorM2
import Derived.Test.YtibgiohijknmbaaGreatDoorM7
import Derived.Test.YtibgiohijknmbaaGreatDoorM3
/-
  url.Bare: of URLs with a host and a path, without a user and a port.
-/
namespace Go.Proofs.YtibgiohijknmbaaGreatDoor
open Go.RowKit
set_option linter.unusedVariables false
set_option linter.unusedSimpArgs false

/-- What Bare writes of a URL with a host and a path, without a user and a port. -/
def bareFile (p : PSt) (l : List ByteArray) : List UInt8 := p.sch.data.toList ++ 58 :: (47 :: 47 :: p.host.data.toList ++ (pathB l ++ queryS p))
set_option maxRecDepth 100000 in
set_option maxHeartbeats 1000000 in
theorem bare_file (p : PSt) (pa : Option Addr) (pc : Nat) (l : List ByteArray) (hp : p.path = .slice pa l.length pc) (hh : p.hasHost = true) (hu : p.user = ⟨#[]⟩) (hw : p.pass = ⟨#[]⟩) (hport : p.port = -1) (ho : p.opq = false) (w : World) (hrd : PathRd w pa pc l) (z1 : p.sch.size ≤ 1073741824) (z0 : p.host.size ≤ 1073741824) (z2 : (pathB l).length ≤ 1073741824) (z3 : p.query.size ≤ 1073741824) :
    Calls Tryz.prog 37 #[.agg (PSt.url p)] w fun e w' => e = .returned (.string ⟨(bareFile p l).toArray⟩) ∧ Below w.heap.size w w' := by
  have I0 := (u_start w p).var
  have hb0 := (u_start w p).bel
  have hau := fun W => auth_file p pa l.length pc hp hh hu hw hport z0 W
  have hpa := fun W (h : Below w.heap.size w W) => upath_c p pa pc l hp ho W (hrd.below h) z2
  have hres : bareFile p l = p.sch.data.toList ++ 58 :: (47 :: 47 :: p.host.data.toList ++ (pathB l ++ queryS p)) := rfl
  have hq : queryS p = if p.hasQ = true then 63 :: p.query.data.toList else [] := rfl
  obtain ⟨sch, user, pass, host, hasHost, port, opq, text, path, hasQ, hasF, query, frag, rest, q, f, bad⟩ := p
  simp only at hp hh hu hw hport ho z0 z1 z3 hres hq hau
  subst hp
  subst hh
  subst hu
  subst hw
  subst hport
  subst ho
  generalize bareFile _ l = res at *
  have HRES := Lib.hid hres
  have HQ := Lib.hid hq
  clear hres hq
  unfold PSt.url at hau hpa hb0 ⊢
  simp only at hau hpa hb0 ⊢
  go_enter Tryz.func37, Tryz.ntmps37
  go_wp2_with fail
  have s1 : sch.size + 1 ≤ 9223372036854775807 := by omega
  have s2 : (sch ++ ⟨#[58]⟩).size ≤ 9223372036854775807 := by rw [ByteArray.size_append]; exact s1
  have s3 : ∀ W, (Op.stringOp .add sch ⟨#[58]⟩).run Tryz.prog W = .ok (.string (sch ++ ⟨#[58]⟩)) W := fun W => run_string_add_sum W sch ⟨#[58]⟩ (by show sch.size + 1 ≤ 9223372036854775807; omega)
  have hAz : (⟨(47 :: 47 :: host.data.toList).toArray⟩ : ByteArray).size = host.size + 2 := by
    show (47 :: 47 :: host.data.toList).toArray.size = _
    rw [List.size_toArray, List.length_cons, List.length_cons, Array.length_toList]
    rfl
  have hAd : (⟨(47 :: 47 :: host.data.toList).toArray⟩ : ByteArray).data = (47 :: 47 :: host.data.toList).toArray := rfl
  have hPz : (⟨(pathB l).toArray⟩ : ByteArray).size = (pathB l).length := by show (pathB l).toArray.size = _; simp
  have hPd : (⟨(pathB l).toArray⟩ : ByteArray).data = (pathB l).toArray := rfl
  generalize (⟨(47 :: 47 :: host.data.toList).toArray⟩ : ByteArray) = A at *
  generalize (⟨(pathB l).toArray⟩ : ByteArray) = text2 at *
  have HAD := Lib.hid hAd
  have HPD := Lib.hid hPd
  have hA2 : A.size ≤ 1073741826 := by omega
  have hP2 : text2.size ≤ 1073741824 := by omega
  clear hAd hPd hAz hPz
  have s5 : ∀ W, (Op.stringOp .add (sch ++ ⟨#[58]⟩) A).run Tryz.prog W = .ok (.string (sch ++ ⟨#[58]⟩ ++ A)) W := fun W => run_string_add_sum W (sch ++ ⟨#[58]⟩) A (by rw [ByteArray.size_append]; show sch.size + 1 + _ ≤ 9223372036854775807; omega)
  unfold PSt.url at I0
  simp only at I0
  generalize w.alloc (.cells #[.string sch, .string ⟨#[]⟩, .string ⟨#[]⟩, .string host, .bool true, .int .i64 (-1), .bool false, .string text, .slice pa l.length pc, .bool hasQ, .bool hasF, .string query, .string frag] 41) = W0 at *
  have KP : Hid (∀ W, Below W0.heap.size W0 W → W.cell? ⟨w.heap.size, 0, none⟩ = some (.string sch) ∧ W.cell? ⟨w.heap.size, 1, none⟩ = some (.string ⟨#[]⟩) ∧ W.cell? ⟨w.heap.size, 2, none⟩ = some (.string ⟨#[]⟩) ∧ W.cell? ⟨w.heap.size, 3, none⟩ = some (.string host) ∧ W.cell? ⟨w.heap.size, 4, none⟩ = some (.bool true) ∧ W.cell? ⟨w.heap.size, 5, none⟩ = some (.int .i64 (-1)) ∧ W.cell? ⟨w.heap.size, 6, none⟩ = some (.bool false) ∧ W.cell? ⟨w.heap.size, 7, none⟩ = some (.string text) ∧ W.cell? ⟨w.heap.size, 8, none⟩ = some (.slice pa l.length pc) ∧ W.cell? ⟨w.heap.size, 9, none⟩ = some (.bool hasQ) ∧ W.cell? ⟨w.heap.size, 10, none⟩ = some (.bool hasF) ∧ W.cell? ⟨w.heap.size, 11, none⟩ = some (.string query) ∧ W.cell? ⟨w.heap.size, 12, none⟩ = some (.string frag)) := fun W hb => by
    have h := (hb.block _ (Array.getElem?_eq_some_iff.1 I0).1).trans I0
    exact ⟨Lib.cell_of_heap h 0, Lib.cell_of_heap h 1, Lib.cell_of_heap h 2, Lib.cell_of_heap h 3, Lib.cell_of_heap h 4, Lib.cell_of_heap h 5, Lib.cell_of_heap h 6, Lib.cell_of_heap h 7, Lib.cell_of_heap h 8, Lib.cell_of_heap h 9, Lib.cell_of_heap h 10, Lib.cell_of_heap h 11, Lib.cell_of_heap h 12⟩
  obtain ⟨q0, q1, q2, q3, q4, q5, q6, q7, q8, q9, q10, q11, q12⟩ := KP.out W0 (Below.refl _ _)
  go_region_held3 (fun W => W.cell? ⟨w.heap.size, 0, none⟩ = some (.string sch) ∧ W.cell? ⟨w.heap.size, 1, none⟩ = some (.string ⟨#[]⟩) ∧ W.cell? ⟨w.heap.size, 2, none⟩ = some (.string ⟨#[]⟩) ∧ W.cell? ⟨w.heap.size, 3, none⟩ = some (.string host) ∧ W.cell? ⟨w.heap.size, 4, none⟩ = some (.bool true) ∧ W.cell? ⟨w.heap.size, 5, none⟩ = some (.int .i64 (-1)) ∧ W.cell? ⟨w.heap.size, 6, none⟩ = some (.bool false) ∧ W.cell? ⟨w.heap.size, 7, none⟩ = some (.string text) ∧ W.cell? ⟨w.heap.size, 8, none⟩ = some (.slice pa l.length pc) ∧ W.cell? ⟨w.heap.size, 9, none⟩ = some (.bool hasQ) ∧ W.cell? ⟨w.heap.size, 10, none⟩ = some (.bool hasF) ∧ W.cell? ⟨w.heap.size, 11, none⟩ = some (.string query) ∧ W.cell? ⟨w.heap.size, 12, none⟩ = some (.string frag)) (first | go_keep | (exact KP.out _ (un_drew hb1)))
    (first | (go_at_call 73; refine (hau _).mono ?_; rintro e w1 ⟨rfl, hb1⟩))
  have hb1 := un_drew hb1
  obtain ⟨k0, k1, k2, k3, k4, k5, k6, k7, k8, k9, k10, k11, k12⟩ := KP.out w1 hb1
  have hl : w.heap.size < w1.heap.size := by have := (Array.getElem?_eq_some_iff.1 I0).1; have := hb1.size; omega
  clear q0 q1 q2 q3 q4 q5 q6 q7 q8 q9 q10 q11 q12 I0
  clear s3 s5
  have hT1 : (sch ++ ⟨#[58]⟩ ++ A).size = sch.size + 1 + A.size := by rw [ByteArray.size_append, ByteArray.size_append]; rfl
  have HFIN : Hid (∀ t : ByteArray, t = (if hasQ = true then (⟨#[63]⟩ : ByteArray) ++ query else ⟨#[]⟩) → (⟨res.toArray⟩ : ByteArray) = sch ++ ⟨#[58]⟩ ++ A ++ text2 ++ t) := fun t ht => by
    subst ht
    apply ByteArray.ext
    rw [HRES.out, HQ.out]
    cases hasQ <;> simp [ByteArray.data_append, HAD.out, HPD.out]
  generalize sch ++ ⟨#[58]⟩ ++ A = T1 at *
  have hT2 : (T1 ++ text2).size = T1.size + text2.size := by rw [ByteArray.size_append]
  have hTb : T1.size + text2.size ≤ 9223372036854775807 := by omega
  have hT3 : ((⟨#[63]⟩ : ByteArray) ++ query).size = 1 + query.size := by rw [ByteArray.size_append]; rfl
  have hTc : 1 + query.size ≤ 9223372036854775807 := by omega
  have hTd : (T1 ++ text2).size + ((⟨#[63]⟩ : ByteArray) ++ query).size ≤ 9223372036854775807 := by omega
  have HT := Lib.hid (And.intro hT1 (And.intro hT2 hT3))
  clear hT1 hT2 hT3
  go_wp2_with fail
  refine (hpa _ (hb0.trans (hb1.mono hb0.size))).mono ?_
  rintro e w2 ⟨rfl, hb2⟩
  have hB2 := hb1.trans (hb2.mono hb1.size)
  obtain ⟨j0, j1, j2, j3, j4, j5, j6, j7, j8, j9, j10, j11, j12⟩ := KP.out w2 hB2
  have hBB := hb0.trans (hB2.mono hb0.size)
  have hl2 : w.heap.size < w2.heap.size := by have := hb2.size; omega
  clear k0 k1 k2 k3 k4 k5 k6 k7 k8 k9 k10 k11 k12 hb1 hb2 hB2 hpa hau
  have e1 := fun W => run_string_add_sum (P := Tryz.prog) W T1 text2 hTb
  have e2 := fun W => run_string_add_sum (P := Tryz.prog) W ⟨#[63]⟩ query (by show 1 + query.size ≤ _; omega)
  have e3 := fun W => run_string_add_sum (P := Tryz.prog) W (T1 ++ text2) ((⟨#[63]⟩ : ByteArray) ++ query) hTd
  cases hasQ with
  | true =>
    go_wp2
    go_ret
    exact ⟨ret_s (HFIN.out _ rfl).symm, hBB⟩
  | false =>
    go_wp2
    go_ret
    refine ⟨ret_s ?_, hBB⟩
    rw [HFIN.out _ rfl, if_neg (by decide), app_nil]
end Go.Proofs.YtibgiohijknmbaaGreatDoor

/-
  url.Print of files' URLs without a fragment; utf8.Valid of a few ASCII bytes; utf.Valid.
-/
namespace Go.Proofs.YtibgiohijknmbaaGreatDoor
open Go.RowKit
set_option linter.unusedVariables false
set_option linter.unusedSimpArgs false

set_option maxRecDepth 100000 in
set_option maxHeartbeats 1000000 in
theorem print_file (p : PSt) (pa : Option Addr) (pc : Nat) (l : List ByteArray) (hp : p.path = .slice pa l.length pc) (hh : p.hasHost = true) (hu : p.user = ⟨#[]⟩) (hw : p.pass = ⟨#[]⟩) (hport : p.port = -1) (ho : p.opq = false) (hf : p.hasF = false) (w : World) (hrd : PathRd w pa pc l) (z1 : p.sch.size ≤ 1073741824) (z0 : p.host.size ≤ 1073741824) (z2 : (pathB l).length ≤ 1073741824) (z3 : p.query.size ≤ 1073741824) :
    Calls Tryz.prog 46 #[.agg (PSt.url p)] w fun e w' => e = .returned (.string ⟨(bareFile p l).toArray⟩) ∧ Below w.heap.size w w' := by
  have hb0 := (u_start w p).bel
  have hbr := bare_file p pa pc l hp hh hu hw hport ho _ (hrd.below hb0) z1 z0 z2 z3
  generalize bareFile p l = res at *
  obtain ⟨sch, user, pass, host, hasHost, port, opq, text, path, hasQ, hasF, query, frag, rest, q, f, bad⟩ := p
  simp only at hp hh hu hw hport ho hf
  subst hp
  subst hf
  subst hh
  subst hu
  subst hw
  subst hport
  subst ho
  unfold PSt.url at hbr hb0 ⊢
  simp only at hbr hb0 ⊢
  clear hrd
  go_enter Tryz.func46, Tryz.ntmps46
  go_wp2_with fail
  refine hbr.mono ?_
  rintro e w1 ⟨rfl, hb1⟩
  go_wp2
  go_ret
  exact ⟨rfl, hb0.trans (hb1.mono hb0.size)⟩

set_option maxRecDepth 100000 in
set_option maxHeartbeats 1000000 in
/-- utf8.Valid of at most eight ASCII bytes. -/
theorem valid_few (l : List UInt8) (b off cap : Nat) (w : World) (hl : l.length ≤ 8) (hlc : l.length ≤ cap) (hcap : cap ≤ 9223372036854775807) (ha : ∀ c ∈ l, c.toNat < 128) (hby : BytesAt w b off l) :
    Calls Tryz.prog 180 #[.slice (some ⟨b, off, none⟩) l.length cap] w fun e w' => e = .returned (.bool true) ∧ w' = w := by
  have HBY := Lib.hid hby
  have HA := Lib.hid ha
  clear hby ha
  go_enter Tryz.func180, Tryz.ntmps180
  go_wp2_with fail
  go_loopw [0] (fun v wr => ∃ k o : Nat, k ≤ l.length ∧ v = .slice (some ⟨b, o, none⟩) (l.length - k) (l.length - k) ∧ (k < l.length → o = off + k) ∧ wr = w) (fun v _ => lenOf v)
  case atStart => exact ⟨0, off, Nat.zero_le _, by simp, fun _ => rfl, rfl⟩
  case round =>
    obtain ⟨k, o, hk, rfl, ho, rfl⟩ := hrel
    by_cases hlt : k < l.length
    · obtain rfl := ho hlt
      obtain ⟨n, hn⟩ : ∃ n, l.length - k = n + 1 := ⟨l.length - k - 1, by omega⟩
      have hc : wr.cell? ⟨b, off + k, none⟩ = some (.int .u8 ((l.getD k 0).toNat : Int)) := HBY.out k hlt
      have hx := HA.out (l.getD k 0) (by rw [List.getD_eq_getElem?_getD, List.getElem?_eq_getElem hlt]; exact List.getElem_mem _)
      generalize (l.getD k 0).toNat = x at *
      rw [hn]
      have hn8 : n + 1 ≤ 8 := by omega
      have hx2 : (x : Int) < 128 := by omega
      by_cases hn0 : n = 0
      · subst hn0
        have HN := Lib.hid hn
        clear hn
        go_wp2
        have hN := HN.out
        refine ⟨⟨k + 1, off + k, by omega, ?_, fun h => by omega, trivial⟩, by simp only [lenOf]; omega⟩
        have e : l.length - (k + 1) = 0 := by omega
        rw [e]
      · obtain ⟨m, rfl⟩ : ∃ m, n = m + 1 := ⟨n - 1, by omega⟩
        have HN := Lib.hid hn
        clear hn hn0
        go_wp2
        have hN := HN.out
        refine ⟨⟨k + 1, off + k + 1, by omega, ?_, fun h => by omega, trivial⟩, by simp only [lenOf]; omega⟩
        have e : l.length - (k + 1) = m + 1 := by omega
        rw [e]
    · obtain rfl : k = l.length := by omega
      rw [Nat.sub_self]
      go_wp2
      go_ret
      exact ⟨rfl, rfl⟩
end Go.Proofs.YtibgiohijknmbaaGreatDoor

/-
  posix.Segment: a component's segment.
-/
namespace Go.Proofs.YtibgiohijknmbaaGreatDoor
open Go.RowKit
set_option linter.unusedVariables false
set_option linter.unusedSimpArgs false

def segPs : Pairs := [(92, [37, 53, 67]), (124, [37, 55, 67])]
def segL (l : List UInt8) : List UInt8 := repL segPs (escL 4 (Lib.replaceAll l [37] [37, 50, 53]))
theorem countB_le (s : ByteArray) (c : UInt8) : Lib.countB s ⟨#[c]⟩ ≤ s.size + 1 := by
  unfold Lib.countB
  refine Nat.le_trans (Lib.count_le _ _) ?_
  rw [Array.length_toList]
  exact Nat.le_refl _
theorem replaceK_le (c : UInt8) (new : List UInt8) : ∀ (k : Nat) (s : List UInt8), (Lib.replaceK [c] new k s).length ≤ s.length + k * new.length
  | 0, s => by simp [Lib.replaceK]
  | k + 1, s => by
    rw [Lib.replaceK]
    split
    · exact Nat.le_add_right _ _
    · have ih := replaceK_le c new k (s.drop ((Lib.index s [c]).toNat + [c].length))
      rw [List.length_append, List.length_append, List.length_take]
      rw [List.length_drop] at ih
      have e : (k + 1) * new.length = k * new.length + new.length := by rw [Nat.add_mul, Nat.one_mul]
      rw [e]
      omega
theorem segPs_nodup : (segPs.map (·.1)).Nodup := by decide
theorem replaceAll_le (l : List UInt8) : (Lib.replaceAll l [37] [37, 50, 53]).length ≤ 4 * l.length + 3 := by
  unfold Lib.replaceAll Lib.replace
  rw [if_neg (by decide)]
  have h := replaceK_le 37 [37, 50, 53] (Lib.replaceNum l [37] (-1)) l
  have e : Lib.replaceNum l [37] (-1) = Lib.count l [37] := by unfold Lib.replaceNum; rw [if_pos (Or.inl (by decide))]
  have h2 := Lib.count_le l [37]
  rw [e] at h
  have e3 : ([37, 50, 53] : List UInt8).length = 3 := rfl
  rw [e3] at h
  rw [e]
  omega

set_option maxRecDepth 100000 in
set_option maxHeartbeats 1000000 in
theorem segment_c (s : ByteArray) (m : Int) (w : World) (hm : w.cell? ⟨0, 0, none⟩ = some (.int .i64 m)) (hs : s.size ≤ 1000000) :
    Calls Tryz.prog 77 #[.string s] w fun e w' => e = .returned (.string ⟨(segL s.data.toList).toArray⟩) ∧ Below w.heap.size w w' := by
  have hra := Tryz.strings_ReplaceAll s ⟨#[37]⟩ ⟨#[37, 50, 53]⟩ m w (by omega) hm (by decide) (by have := countB_le s 37; have e3 : (⟨#[37, 50, 53]⟩ : ByteArray).size = 3 := rfl; rw [e3]; omega)
  have e1 : (⟨#[37]⟩ : ByteArray).data.toList = [37] := rfl
  have e2 : (⟨#[37, 50, 53]⟩ : ByteArray).data.toList = [37, 50, 53] := rfl
  rw [e1, e2] at hra
  have hle := replaceAll_le s.data.toList
  have sz : s.data.toList.length = s.size := by rw [Array.length_toList]; rfl
  rw [sz] at hle
  have hseg : segL s.data.toList = repL segPs (escL 4 (Lib.replaceAll s.data.toList [37] [37, 50, 53])) := rfl
  generalize segL s.data.toList = res at *
  generalize Lib.replaceAll s.data.toList [37] [37, 50, 53] = l1 at *
  have hz1 : (⟨l1.toArray⟩ : ByteArray).size = l1.length := by show l1.toArray.size = _; simp
  have hd1 : (⟨l1.toArray⟩ : ByteArray).data.toList = l1 := rfl
  generalize (⟨l1.toArray⟩ : ByteArray) = s1 at *
  rw [← hd1] at hseg
  have hcv := fun W => esc_conv s1 W
  have HSEG := Lib.hid hseg
  have hs1 : s1.size ≤ 4000003 := by omega
  have hel := escL_size 4 s1
  have HEL := Lib.hid hel
  clear e1 e2 sz hseg hz1 hd1 hle hel
  go_enter Tryz.func77, Tryz.ntmps77
  go_wp2_with fail
  refine hra.mono ?_
  rintro e w1 ⟨rfl, hb1⟩
  clear hra
  go_wp2_with fail
  have hst : StrsAt (w1.alloc (.cells #[.string ⟨#[92]⟩, .string ⟨#[37, 53, 67]⟩, .string ⟨#[124]⟩, .string ⟨#[37, 55, 67]⟩] 9)) w1.heap.size (oldnew segPs) := fun j hj => by
    have e : oldnew segPs = [⟨#[92]⟩, ⟨#[37, 53, 67]⟩, ⟨#[124]⟩, ⟨#[37, 55, 67]⟩] := rfl
    rw [e] at hj ⊢
    have hj' : j < 4 := hj
    rw [Lib.cell_of_heap (heap_last _ _)]
    match j, hj' with
    | 0, _ => rfl
    | 1, _ => rfl
    | 2, _ => rfl
    | 3, _ => rfl
  refine (newrep_c segPs w1.heap.size 4 _ (by decide) (by decide) hst (by simp) (by decide) (by omega)).mono ?_
  rintro e w2 ⟨R, rfl, hR, hraw, hb2⟩
  have hB1 := hb1.alloc hb1.size (.cells #[.string ⟨#[92]⟩, .string ⟨#[37, 53, 67]⟩, .string ⟨#[124]⟩, .string ⟨#[37, 55, 67]⟩] 9)
  have hB2 : Below w.heap.size w w2 := hB1.trans (hb2.mono hB1.size)
  have hwR : w.heap.size < R := by have := hb1.size; simp at hR; omega
  have HRAW := Lib.hid hraw
  clear hst hraw hb2 hR hB1
  go_wp2_with fail
  refine (esc_at 4 s1 w2 _ _ rfl rfl (by decide) (by decide) (by omega)).mono ?_
  rintro e w3 ⟨rfl, hb3⟩
  have hraw3 : RawAt w3 R 0 segPs := by
    obtain ⟨g, c, q1, q2, q3, q4, q5⟩ := HRAW.out
    have hRl : R < w2.heap.size := (Array.getElem?_eq_some_iff.1 q1).1
    refine ⟨g, c, (hb3.block R hRl).trans q1, q2, fun j hj => (hb3.cell (p := ⟨g, j, none⟩) q4).trans (q3 j hj), Nat.lt_of_lt_of_le q4 hb3.size, q5⟩
  have hre := replacer_c segPs R ⟨(escL 4 s1.data.toList).toArray⟩ w3 (by decide) (by decide) ⟨0, by decide, by decide⟩ segPs_nodup (by decide) (by have := HEL.out; show (escL 4 s1.data.toList).toArray.size ≤ _; rw [List.size_toArray]; omega) hraw3
  have hB3 := hB2.trans (hb3.mono hB2.size)
  clear hraw3 hb3 HRAW hB2 hcv
  go_wp2_with fail
  refine hre.mono ?_
  rintro e w4 ⟨rfl, hgr⟩
  go_wp2
  go_ret
  exact ⟨ret_s (by rw [HSEG.out]), hB3.grown hgr hB3.size (fun q hq => by injection hq; omega)⟩
end Go.Proofs.YtibgiohijknmbaaGreatDoor

/-
  utf.Valid of a few ASCII bytes; posix.Fine of "/a".
-/
namespace Go.Proofs.YtibgiohijknmbaaGreatDoor
open Go.RowKit
set_option linter.unusedVariables false
set_option linter.unusedSimpArgs false

set_option maxRecDepth 100000 in
set_option maxHeartbeats 1000000 in
theorem uvalid_few (l : List UInt8) (b off cap : Nat) (w : World) (hl : l.length ≤ 8) (hlc : l.length ≤ cap) (hcap : cap ≤ 9223372036854775807) (ha : ∀ c ∈ l, c.toNat < 128) (hby : BytesAt w b off l) :
    Calls Tryz.prog 127 #[.slice (some ⟨b, off, none⟩) l.length cap] w fun e w' => e = .returned (.bool true) ∧ w' = w := by
  have hv := valid_few l b off cap w hl hlc hcap ha hby
  generalize l.length = n at *
  clear hby ha
  go_enter Tryz.func127, Tryz.ntmps127
  go_wp2_with fail
  refine hv.mono ?_
  rintro e w1 ⟨rfl, rfl⟩
  go_wp2
  go_ret
  exact ⟨rfl, rfl⟩
def slashA : ByteArray := ⟨#[47, 97]⟩
def justA : ByteArray := ⟨#[97]⟩
theorem split_a : Lib.splitB ⟨#[47]⟩ 0 (Lib.countB justA ⟨#[47]⟩) justA = [justA] := by decide
theorem count_a : Lib.countB justA ⟨#[47]⟩ = 0 := by decide

set_option maxRecDepth 100000 in
set_option maxHeartbeats 1000000 in
theorem fine_a (m : Int) (w : World) (hm : w.cell? ⟨0, 0, none⟩ = some (.int .i64 m)) (hz : 0 < w.heap.size) :
    Calls Tryz.prog 75 #[.string slashA] w fun e w' => e = .returned (.bool true) ∧ Below w.heap.size w w' := by
  have hcv := esc_conv slashA w
  have hb0 := below_bytesWorld w 5 slashA
  have hby : BytesAt (Lib.bytesWorld w 5 slashA) w.heap.size 0 [47, 97] := fun j hj => by
    rw [Nat.zero_add, Lib.bytesWorld_cell w _ slashA j hj]
    rfl
  have hmm := (hb0.cell (p := ⟨0, 0, none⟩) hz).trans hm
  have hcap : slashA.size ≤ grownCap w slashA.size 0 5 := grownCap_ge w slashA.size 0 5
  have hcap2 := grownCap_le_maxLen w slashA.size 0 5 (by decide)
  generalize grownCap w slashA.size 0 5 = cp at *
  have hW := Lib.bytesWorld_size w 5 slashA
  generalize Lib.bytesWorld w 5 slashA = W at *
  have hc := Tryz.strings_Contains slashA ⟨#[0]⟩ m W (by decide) hmm
  have hs := Tryz.strings_Split justA ⟨#[47]⟩ m W (by decide) hmm (by decide)
  rw [split_a, count_a] at hs
  have hu := uvalid_few [47, 97] w.heap.size 0 cp W (by decide) hcap (by unfold maxLen at hcap2; omega) (by decide) hby
  have e2 : slashA.size = 2 := rfl
  rw [e2] at hcv
  have hv : ([47, 97] : List UInt8).length = 2 := rfl
  rw [hv] at hu
  have hp := Tryz.strings_HasPrefix slashA ⟨#[47]⟩ w
  have e3 : Lib.hasPrefix slashA.data.toList [47] = true := by decide
  have e4 : Lib.contains slashA.data.toList [0] = false := by decide
  have e5 : (⟨#[47]⟩ : ByteArray).data.toList = [47] := rfl
  have e6 : (⟨#[0]⟩ : ByteArray).data.toList = [0] := rfl
  rw [e5, e3] at hp
  rw [e6, e4] at hc
  have e7 : slashA.extract 1 2 = justA := by decide
  clear hby
  go_enter Tryz.func75, Tryz.ntmps75
  go_wp2_with fail
  refine hp.mono ?_
  rintro e w1 ⟨rfl, rfl⟩
  go_wp2_with fail
  refine hu.mono ?_
  rintro e w1 ⟨rfl, rfl⟩
  go_wp2_with fail
  refine hc.mono ?_
  rintro e w1 ⟨rfl, rfl⟩
  go_wp2_with fail
  refine hs.mono ?_
  rintro e w2 ⟨rfl, rfl⟩
  have hcell : (w1.alloc (.cells (List.map Value.string [justA]).toArray 9)).cell? ⟨w1.heap.size, 0, none⟩ = some (.string justA) := Lib.cell_of_heap (heap_last _ _) 0
  have hB1 := hb0.alloc hb0.size (.cells (List.map Value.string [justA]).toArray 9)
  generalize w1.alloc (.cells (List.map Value.string [justA]).toArray 9) = W2 at *
  clear hW
  generalize w1.heap.size = n1 at *
  have q1 : justA.toList = [97] := by rw [ByteArray.toList_eq]; rfl
  clear hs hc hp hu hcv
  go_wp2_with fail
  go_loopw [24] (fun v wr => ∃ k : Nat, k ≤ 1 ∧ v = .int .i64 k ∧ wr = W2) (fun v _ => (1 - intOf v).toNat)
  case atStart => exact ⟨0, by omega, by simp⟩
  case round =>
    obtain ⟨k, hk, rfl, rfl⟩ := hrel
    by_cases hlt : k < 1
    · obtain rfl : k = 0 := by omega
      go_wp2_with fail
      exact ⟨⟨1, by omega, by simp⟩, by simp [intOf]⟩
    · obtain rfl : k = 1 := by omega
      go_wp2_with fail
      go_ret
      exact ⟨rfl, hB1⟩
end Go.Proofs.YtibgiohijknmbaaGreatDoor
