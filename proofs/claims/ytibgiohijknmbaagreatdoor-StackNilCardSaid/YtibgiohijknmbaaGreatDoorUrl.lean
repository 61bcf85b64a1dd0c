/-
  url.ports, Special, Default: what each call answers.
-/
import Derived.Test.YtibgiohijknmbaaGreatDoorProg
import Derived.Test.YtibgiohijknmbaaGreatDoorBase
import Derived.Maps.OwnSet
import Derived.Maps.Keyed
import Derived.Lib.Hide
namespace Go.Proofs.YtibgiohijknmbaaGreatDoor
open Go.RowKit Go.WideMaps Go.Maps
set_option linter.unusedVariables false
set_option linter.unusedSimpArgs false

theorem smap_law : Keyed Tryz.prog 9 := string_keyed Tryz.underlying9
def lint (n : Int) : DataW Unit := .lit (.int .i64 n)
def portsD : DataW Unit := ((((((DataW.map []).put (.string [102, 116, 112]) (lint 21)).put (.string [102, 105, 108, 101]) (lint (-1))).put (.string [104, 116, 116, 112]) (lint 80)).put (.string [104, 116, 116, 112, 115]) (lint 443)).put (.string [119, 115]) (lint 80)).put (.string [119, 115, 115]) (lint 443)

theorem ins_lit (w : World) (ks : Array UInt8) (z : Int) (b n : Nat) (D : DataW Unit)
    (hown : w.ownsMap Tryz.prog 9 (plainElem (H := Unit) Tryz.prog 3) b n D) (hn : n < maxLen) (hk : ks.size ≤ maxLen) (hz : (Lit.int .i64 z).wf = true) :
    ∃ w', (Instr.mapUpdate 240 (.map (some b)) (.string ⟨ks⟩) (.int .i64 z)).run Tryz.prog w = .ok () w' ∧ w'.ownsMap Tryz.prog 9 (plainElem (H := Unit) Tryz.prog 3) b (n + 1) (D.put (.string ks.toList) (lint z)) ∧ w.grownBy w' (some b) :=
  hown.update smap_law Tryz.underlying240 hn (keyOf_string_mk Tryz.underlying9 hk) (plainElem_int Tryz.underlying3 hz)

set_option maxRecDepth 100000 in
set_option maxHeartbeats 400000 in
theorem ports_c (w : World) :
    Calls Tryz.prog 168 #[] w fun e w' => ∃ b, e = .returned (.map (some b)) ∧ w'.ownsMap Tryz.prog 9 (plainElem (H := Unit) Tryz.prog 3) b 6 portsD ∧ Below w.heap.size w w' := by
  have hmm := @run_makeMap Tryz.prog
  have h0 := World.ownsMap_made w Tryz.prog 9 (plainElem (H := Unit) Tryz.prog 3)
  have b0 : Below w.heap.size w (w.alloc (.map #[] 0)) := (Below.refl _ _).alloc (Nat.le_refl _) _
  obtain ⟨w1, r1, h1, g1⟩ := ins_lit _ #[102, 116, 112] 21 w.heap.size 0 _ h0 (by unfold maxLen; omega) (by simp [maxLen]) (by decide)
  obtain ⟨w2, r2, h2, g2⟩ := ins_lit _ #[102, 105, 108, 101] (-1) w.heap.size 1 _ h1 (by unfold maxLen; omega) (by simp [maxLen]) (by decide)
  obtain ⟨w3, r3, h3, g3⟩ := ins_lit _ #[104, 116, 116, 112] 80 w.heap.size 2 _ h2 (by unfold maxLen; omega) (by simp [maxLen]) (by decide)
  obtain ⟨w4, r4, h4, g4⟩ := ins_lit _ #[104, 116, 116, 112, 115] 443 w.heap.size 3 _ h3 (by unfold maxLen; omega) (by simp [maxLen]) (by decide)
  obtain ⟨w5, r5, h5, g5⟩ := ins_lit _ #[119, 115] 80 w.heap.size 4 _ h4 (by unfold maxLen; omega) (by simp [maxLen]) (by decide)
  obtain ⟨w6, r6, h6, g6⟩ := ins_lit _ #[119, 115, 115] 443 w.heap.size 5 _ h5 (by unfold maxLen; omega) (by simp [maxLen]) (by decide)
  have e : ∀ k, some w.heap.size = some k → w.heap.size ≤ k := fun k hk => by injection hk with hk; omega
  have b1 := b0.grown g1 b0.size e
  have b2 := b1.grown g2 b1.size e
  have b3 := b2.grown g3 b2.size e
  have b4 := b3.grown g4 b3.size e
  have b5 := b4.grown g5 b4.size e
  have b6 := b5.grown g6 b5.size e
  have H6 : w6.ownsMap Tryz.prog 9 (plainElem (H := Unit) Tryz.prog 3) w.heap.size 6 portsD := h6
  clear h0 h1 h2 h3 h4 h5 h6 g1 g2 g3 g4 g5 g6 b0 b1 b2 b3 b4 b5 e
  go_enter Tryz.func168, Tryz.ntmps168
  go_wp2
  go_ret
  exact ⟨_, rfl, H6, b6⟩

/-- The special schemes. -/
def specials : List (List UInt8) := [[102, 116, 112], [102, 105, 108, 101], [104, 116, 116, 112], [104, 116, 116, 112, 115], [119, 115], [119, 115, 115]]
def specialB (s : List UInt8) : Bool := specials.any (· == s)
/-- A scheme's own port. -/
def portI (s : List UInt8) : Int := if s = [102, 116, 112] then 21 else if s = [104, 116, 116, 112] ∨ s = [119, 115] then 80 else if s = [104, 116, 116, 112, 115] ∨ s = [119, 115, 115] then 443 else -1

theorem ports_has (s : List UInt8) : Maps.has portsD (.string s) = specialB s := by
  have e : portsD = .map [(.string [102, 105, 108, 101], lint (-1)), (.string [102, 116, 112], lint 21), (.string [104, 116, 116, 112], lint 80), (.string [104, 116, 116, 112, 115], lint 443), (.string [119, 115], lint 80), (.string [119, 115, 115], lint 443)] := by rfl
  rw [e, Maps.has_eq]
  simp only [List.any_cons, List.any_nil, Bool.or_false, Lit.sameKey, specialB, specials]
  rw [Bool.eq_iff_iff]
  simp
  constructor <;> (intro h; rcases h with h | h | h | h | h | h <;> subst h <;> simp)
theorem special_true {s : List UInt8} : specialB s = true ↔ s ∈ specials := by simp [specialB, specials]; constructor <;> (intro h; rcases h with h | h | h | h | h | h <;> subst h <;> simp)

theorem ports_at (s : List UInt8) : DataW.atKey portsD (.string s) (lint 0) = if specialB s = true then lint (portI s) else lint 0 := by
  have e : portsD = .map [(.string [102, 105, 108, 101], lint (-1)), (.string [102, 116, 112], lint 21), (.string [104, 116, 116, 112], lint 80), (.string [104, 116, 116, 112, 115], lint 443), (.string [119, 115], lint 80), (.string [119, 115, 115], lint 443)] := by rfl
  rw [e]
  by_cases h : specialB s = true
  · rw [if_pos h]
    have := special_true.1 h
    simp only [specials, List.mem_cons, List.not_mem_nil, or_false] at this
    rcases this with rfl | rfl | rfl | rfl | rfl | rfl <;> rfl
  · rw [if_neg h]
    have hn : ∀ x ∈ specials, x ≠ s := fun x hx e => h (special_true.2 (e ▸ hx))
    simp only [DataW.atKey]
    rw [List.find?_eq_none.2]
    have h1 := hn [102, 116, 112] (by simp [specials])
    have h2 := hn [102, 105, 108, 101] (by simp [specials])
    have h3 := hn [104, 116, 116, 112] (by simp [specials])
    have h4 := hn [104, 116, 116, 112, 115] (by simp [specials])
    have h5 := hn [119, 115] (by simp [specials])
    have h6 := hn [119, 115, 115] (by simp [specials])
    intro p hp
    simp only [List.mem_cons, List.not_mem_nil, or_false] at hp
    rcases hp with rfl | rfl | rfl | rfl | rfl | rfl <;> (simp only [Lit.sameKey]; simpa using (by assumption))

theorem zero_int (w : World) : (zeroValue 3).run Tryz.prog w = .ok (.int .i64 0) w := by kernel_rfl
theorem ports_look {w : World} {b n : Nat} (hown : w.ownsMap Tryz.prog 9 (plainElem (H := Unit) Tryz.prog 3) b n portsD) (s : ByteArray) (hs : s.size ≤ maxLen) :
    ∃ z : Int, (Instr.lookup 240 (.map (some b)) (.string s) true).run Tryz.prog w = .ok (.tuple #[.int .i64 z, .bool (specialB s.data.toList)]) w ∧ (specialB s.data.toList = true → z = portI s.data.toList) := by
  obtain ⟨v, ps, hrun, hv⟩ := hown.look_ok smap_law Tryz.underlying240 (zero_int w) (plainElem_int Tryz.underlying3 (by decide)) (keyOf_string_mk Tryz.underlying9 hs)
  obtain ⟨c, rfl, hc, hwc⟩ := plainElem_int_inv Tryz.underlying3 hv
  rw [ports_has] at hrun
  refine ⟨c, hrun, fun h => ?_⟩
  have h1 := congrArg Prod.fst hc
  have h2 := ports_at s.data.toList
  rw [if_pos h] at h2
  have h3 : (lint c : DataW Unit) = lint (portI s.data.toList) := by
    show DataW.lit (.int .i64 c) = _
    rw [← h2]
    exact h1.symm
  simpa [lint] using h3

set_option maxHeartbeats 400000 in
theorem special_c (s : ByteArray) (w : World) (hs : s.size ≤ maxLen) :
    Calls Tryz.prog 107 #[.string s] w fun e w' => e = .returned (.bool (specialB s.data.toList)) ∧ Below w.heap.size w w' := by
  go_enter Tryz.func107, Tryz.ntmps107
  go_wp2_with fail
  refine (ports_c _).mono ?_
  rintro e w1 ⟨b, rfl, hown, hb⟩
  obtain ⟨z, hl, hz⟩ := ports_look hown s hs
  clear hz hown
  go_wp2
  go_ret
  exact ⟨rfl, hb⟩

def defaultI (s : List UInt8) : Int := if specialB s = true then portI s else -1
set_option maxHeartbeats 400000 in
theorem default_c (s : ByteArray) (w : World) (hs : s.size ≤ maxLen) :
    Calls Tryz.prog 287 #[.string s] w fun e w' => e = .returned (.int .i64 (defaultI s.data.toList)) ∧ Below w.heap.size w w' := by
  have hd : defaultI s.data.toList = if specialB s.data.toList = true then portI s.data.toList else -1 := rfl
  generalize defaultI s.data.toList = d at *
  have HD := Lib.hid hd
  clear hd
  go_enter Tryz.func287, Tryz.ntmps287
  go_wp2_with fail
  refine (ports_c _).mono ?_
  rintro e w1 ⟨b, rfl, hown, hb⟩
  obtain ⟨z, hl, hz⟩ := ports_look hown s hs
  clear hown
  cases hsp : specialB s.data.toList with
  | true =>
    rw [hsp] at hl
    have hz' := hz hsp
    have h := HD.out
    rw [if_pos hsp, ← hz'] at h
    subst h
    clear hz hsp hz' HD
    go_wp2
    go_ret
    exact ⟨rfl, hb⟩
  | false =>
    rw [hsp] at hl
    have h := HD.out
    rw [if_neg (by rw [hsp]; decide)] at h
    subst h
    clear hz hsp HD
    go_wp2
    go_ret
    exact ⟨rfl, hb⟩
end Go.Proofs.YtibgiohijknmbaaGreatDoor
