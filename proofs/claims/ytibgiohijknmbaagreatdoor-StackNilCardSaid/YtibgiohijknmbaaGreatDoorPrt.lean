/-
  url.Print of files' URLs without a fragment; utf8.Valid of a few ASCII bytes; utf.Valid.
-/
import Derived.Test.YtibgiohijknmbaaGreatDoorBareF
namespace Go.Proofs.YtibgiohijknmbaaGreatDoor
open Go.RowKit
set_option linter.unusedVariables false
set_option linter.unusedSimpArgs false

set_option maxRecDepth 100000 in
set_option maxHeartbeats 1000000 in
theorem print_file (p : PSt) (pa : Option Addr) (pc : Nat) (l : List ByteArray) (hp : p.path = .slice pa l.length pc) (hh : p.hasHost = true) (hu : p.user = ⟨#[]⟩) (hw : p.pass = ⟨#[]⟩) (hport : p.port = -1) (ho : p.opq = false) (hf : p.hasF = false) (w : World) (hrd : PathRd w pa pc l) (z1 : p.sch.size ≤ 1073741824) (z0 : p.host.size ≤ 1073741824) (z2 : (pathB l).length ≤ 1073741824) (z3 : p.query.size ≤ 1073741824) :
    Calls Tryz.prog 46 #[.agg (PSt.url p)] w fun e w' => e = .returned (.string ⟨(bareFile p l).toArray⟩) ∧ Below w.heap.size w w' := by
  have hb0 := (u_start w p).bel
  have hbr := bare_file p pa pc l hp hh hu hw hport ho _ (hrd.below hb0) z1 z0 z2 z3
  generalize bareFile p l = res at *
  obtain ⟨sch, user, pass, host, hasHost, port, opq, text, path, hasQ, hasF, query, frag, rest, q, f, bad⟩ := p
  simp only at hp hh hu hw hport ho hf
  subst hp
  subst hf
  subst hh
  subst hu
  subst hw
  subst hport
  subst ho
  unfold PSt.url at hbr hb0 ⊢
  simp only at hbr hb0 ⊢
  clear hrd
  go_enter Tryz.func46, Tryz.ntmps46
  go_wp2_with fail
  refine hbr.mono ?_
  rintro e w1 ⟨rfl, hb1⟩
  go_wp2
  go_ret
  exact ⟨rfl, hb0.trans (hb1.mono hb0.size)⟩

set_option maxRecDepth 100000 in
set_option maxHeartbeats 1000000 in
/-- utf8.Valid of at most eight ASCII bytes. -/
theorem valid_few (l : List UInt8) (b off cap : Nat) (w : World) (hl : l.length ≤ 8) (hlc : l.length ≤ cap) (hcap : cap ≤ 9223372036854775807) (ha : ∀ c ∈ l, c.toNat < 128) (hby : BytesAt w b off l) :
    Calls Tryz.prog 180 #[.slice (some ⟨b, off, none⟩) l.length cap] w fun e w' => e = .returned (.bool true) ∧ w' = w := by
  have HBY := Lib.hid hby
  have HA := Lib.hid ha
  clear hby ha
  go_enter Tryz.func180, Tryz.ntmps180
  go_wp2_with fail
  go_loopw [0] (fun v wr => ∃ k o : Nat, k ≤ l.length ∧ v = .slice (some ⟨b, o, none⟩) (l.length - k) (l.length - k) ∧ (k < l.length → o = off + k) ∧ wr = w) (fun v _ => lenOf v)
  case atStart => exact ⟨0, off, Nat.zero_le _, by simp, fun _ => rfl, rfl⟩
  case round =>
    obtain ⟨k, o, hk, rfl, ho, rfl⟩ := hrel
    by_cases hlt : k < l.length
    · obtain rfl := ho hlt
      obtain ⟨n, hn⟩ : ∃ n, l.length - k = n + 1 := ⟨l.length - k - 1, by omega⟩
      have hc : wr.cell? ⟨b, off + k, none⟩ = some (.int .u8 ((l.getD k 0).toNat : Int)) := HBY.out k hlt
      have hx := HA.out (l.getD k 0) (by rw [List.getD_eq_getElem?_getD, List.getElem?_eq_getElem hlt]; exact List.getElem_mem _)
      generalize (l.getD k 0).toNat = x at *
      rw [hn]
      have hn8 : n + 1 ≤ 8 := by omega
      have hx2 : (x : Int) < 128 := by omega
      by_cases hn0 : n = 0
      · subst hn0
        have HN := Lib.hid hn
        clear hn
        go_wp2
        have hN := HN.out
        refine ⟨⟨k + 1, off + k, by omega, ?_, fun h => by omega, trivial⟩, by simp only [lenOf]; omega⟩
        have e : l.length - (k + 1) = 0 := by omega
        rw [e]
      · obtain ⟨m, rfl⟩ : ∃ m, n = m + 1 := ⟨n - 1, by omega⟩
        have HN := Lib.hid hn
        clear hn hn0
        go_wp2
        have hN := HN.out
        refine ⟨⟨k + 1, off + k + 1, by omega, ?_, fun h => by omega, trivial⟩, by simp only [lenOf]; omega⟩
        have e : l.length - (k + 1) = m + 1 := by omega
        rw [e]
    · obtain rfl : k = l.length := by omega
      rw [Nat.sub_self]
      go_wp2
      go_ret
      exact ⟨rfl, rfl⟩
end Go.Proofs.YtibgiohijknmbaaGreatDoor
