/-
  utf.Decode: bytes' characters.
-/
import Derived.Test.YtibgiohijknmbaaGreatDoorFirst
namespace Go.Proofs.YtibgiohijknmbaaGreatDoor
open Go.RowKit
set_option linter.unusedVariables false
set_option linter.unusedSimpArgs false

def decG : Nat → List UInt8 → List Int
  | 0, _ => []
  | f + 1, l => if l = [] then [] else (firstF l).1 :: decG f (l.drop (firstF l).2)
def decF (l : List UInt8) : List Int := decG l.length l
theorem firstF_range (l : List UInt8) (h : l ≠ []) : 1 ≤ (firstF l).2 ∧ (firstF l).2 ≤ l.length := by
  have h1 := firstN_range l h
  have h4 : 0 < l.length := by cases l with | nil => exact absurd rfl h | cons _ _ => simp
  unfold firstF
  (repeat' split) <;> simp <;> omega
theorem decG_fuel (f g : Nat) (l : List UInt8) (hf : l.length ≤ f) (hg : l.length ≤ g) : decG f l = decG g l := by
  induction f generalizing g l with
  | zero =>
    have : l = [] := by cases l with | nil => rfl | cons _ _ => simp at hf
    subst this
    cases g <;> simp [decG]
  | succ f ih =>
    by_cases h : l = []
    · subst h
      cases g <;> simp [decG]
    · have h1 := firstF_range l h
      cases g with
      | zero => exact absurd (List.length_eq_zero_iff.1 (by omega)) h
      | succ g =>
        simp only [decG, if_neg h]
        rw [ih g _ (by rw [List.length_drop]; omega) (by rw [List.length_drop]; omega)]
theorem decF_nil : decF [] = [] := rfl
theorem decF_cons (l : List UInt8) (h : l ≠ []) : decF l = (firstF l).1 :: decF (l.drop (firstF l).2) := by
  have h4 : 0 < l.length := by cases l with | nil => exact absurd rfl h | cons _ _ => simp
  have h1 := firstF_range l h
  unfold decF
  obtain ⟨n, hn⟩ : ∃ n, l.length = n + 1 := ⟨l.length - 1, by omega⟩
  rw [hn]
  simp only [decG, if_neg h]
  rw [decG_fuel n _ _ (by rw [List.length_drop]; omega) (Nat.le_refl _)]
theorem decF_length (l : List UInt8) : (decF l).length ≤ l.length := by
  obtain ⟨n, hn⟩ : ∃ n, l.length = n := ⟨_, rfl⟩
  induction n using Nat.strongRecOn generalizing l with
  | ind n ih =>
    by_cases h : l = []
    · subst h; simp [decF_nil]
    · have h1 := firstF_range l h
      rw [decF_cons l h, List.length_cons]
      have := ih (l.drop (firstF l).2).length (by rw [List.length_drop]; omega) _ rfl
      rw [List.length_drop] at this
      omega
theorem rinfo : (Tryz.prog.info? 21).map (fun i => (i.zero, i.size, i.bytes)) = some (some (.int .i32 0), 1, 4) := by kernel_rfl
def runes (ds : List Int) : List Value := ds.map (Value.int .i32)

set_option maxRecDepth 100000 in
set_option maxHeartbeats 1000000 in
theorem decode_c (l : List UInt8) (b off cap : Nat) (w : World) (hT : Lib.Utf8Tabs 1 2 w) (hl : l.length ≤ cap) (hlen : l.length ≤ 4294967296) (hcap : cap ≤ 9223372036854775807) (hb : BytesAt w b off l) (hbw : b < w.heap.size) :
    Calls Tryz.prog 95 #[.slice (some ⟨b, off, none⟩) l.length cap] w fun e w' => ∃ v, e = .returned v ∧ w'.ownsRow w.heap.size 21 1 v (decF l).length (runes (decF l)) ∧ Below w.heap.size w w' := by
  obtain ⟨i0, hi, hz0, hz1, hz2⟩ := info_parts rinfo
  go_enter Tryz.func95, Tryz.ntmps95
  go_wp2
  go_loopw [0, 3] (fun s out wr => ∃ (m : List UInt8) (o c : Nat) (ds : List Int), s = .slice (some ⟨b, o, none⟩) m.length c ∧ m.length ≤ c ∧ c ≤ cap ∧ BytesAt w b o m ∧ m.length + ds.length ≤ l.length ∧ Hid (ds ++ decF m = decF l) ∧ wr.ownsRow w.heap.size 21 1 out ds.length (runes ds) ∧ Below w.heap.size w wr) (fun s _ _ => lenOf s)
  case atStart => exact ⟨l, off, cap, [], rfl, hl, Nat.le_refl _, hb, by simp, rfl, ⟨by simp [runes], .inl ⟨rfl, rfl⟩⟩, Below.refl _ _⟩
  case round =>
    obtain ⟨m, o, c, ds, rfl, hmc, hcc, hbm, hml, hds, hown, hbl⟩ := hrel
    by_cases hm : m = []
    · subst hm
      have h := hds.out
      rw [decF_nil, List.append_nil] at h
      subst h
      go_wp2
      go_ret
      exact ⟨_, rfl, hown, hbl⟩
    · have hpos : 0 < m.length := by cases m with | nil => exact absurd rfl hm | cons _ _ => simp
      have hfr := firstF_range m hm
      have hdl := decF_length m
      have HD : Hid (decF m = (firstF m).1 :: decF (m.drop (firstF m).2)) := decF_cons m hm
      have hdrop : (m.drop (firstF m).2).length = m.length - (firstF m).2 := List.length_drop
      go_wp2_with (go_at_call 154; refine (first_c m b o c wr (Utf8Tabs_below hT hbl) hm hmc (by omega) (hbm.below hbl hbw)).mono ?_)
      rintro e w1 ⟨rfl, hb1⟩
      have hown1 := own_later hown hb1
      have hbl1 := below_from hbl hbl.size hb1
      have hbm1 := hbm.drop (firstF m).2
      obtain ⟨q, hq⟩ : ∃ q, (firstF m).2 = q := ⟨_, rfl⟩
      obtain ⟨r, hr⟩ : ∃ r, (firstF m).1 = r := ⟨_, rfl⟩
      rw [hq] at hfr hbm1 hdrop HD ⊢
      rw [hr] at HD ⊢
      clear hq hr hown hbl hbm hb1
      have hz := hbl1.size
      go_wp2_with (at_builtin; refine wpList_append_own _ rfl _ _ 168 rfl w.heap.size 21 i0 (.int .i32 0) 1 4 Tryz.underlying168 hi hz0 hz1 hz2 rfl (by decide) _ _ _ rfl (hown1.alloc _) ⟨w1.heap.size, 0, none⟩ 1 1 [.int .i32 r] rfl rfl ?c1 ?c2 ?c3 ?c4 ?c5 ?_)
      case c1 =>
        intro j u hj
        match j, hj with
        | 0, hj => simp at hj; subst hj; simp [Addr.add]
      case c2 => intro u hu; simp at hu; subst hu; rfl
      case c3 => unfold maxLen; omega
      case c4 => omega
      case c5 => simp; omega
      intro v' w2 hown2 hgrow _
      have hbl2 : Below w.heap.size w w2 := (hbl1.alloc (by omega) _).grown hgrow (by simp; omega) (fun k hk => (hown1.lt k hk).1)
      have hv : ∃ g k, v' = .slice (some ⟨g, 0, none⟩) (ds.length + 1) k := by
        rcases hown2.2 with ⟨_, h0⟩ | ⟨g, k, cur, hv, _⟩
        · omega
        · exact ⟨g, k, hv⟩
      obtain ⟨g, kk, rfl⟩ := hv
      have hds2 : Hid ((ds ++ [r]) ++ decF (m.drop q) = decF l) := by
        show _ = _
        rw [← hds.out, HD.out, List.append_assoc]
        rfl
      have hown3 : w2.ownsRow w.heap.size 21 1 (.slice (some ⟨g, 0, none⟩) (ds.length + 1) kk) (ds ++ [r]).length (runes (ds ++ [r])) := by
        have e1 : (ds ++ [r]).length = ds.length + 1 := by simp
        have e2 : runes (ds ++ [r]) = runes ds ++ [.int .i32 r] := by simp [runes]
        rw [e1, e2]
        exact hown2
      clear hown2 hds HD hown1 hgrow
      by_cases hcq : c = q
      · subst hcq
        go_wp2
        refine ⟨⟨m.drop c, o, 0, ds ++ [r], ?_, by omega, by omega, ?_, by simp only [List.length_append, List.length_singleton]; omega, hds2, hown3, hbl2⟩, ?_⟩
        · rw [hdrop, show m.length - c = 0 by omega]
        · intro j hj
          omega
        · simp only [lenOf]; omega
      · go_wp2
        refine ⟨⟨m.drop q, o + q, c - q, ds ++ [r], ?_, by omega, by omega, hbm1, by simp only [List.length_append, List.length_singleton]; omega, hds2, hown3, hbl2⟩, ?_⟩
        · rw [hdrop]
        · simp only [lenOf]; omega
end Go.Proofs.YtibgiohijknmbaaGreatDoor
