/-
  sort.Of: a URL's sort.
-/
import Derived.Test.YtibgiohijknmbaaGreatDoorPSch
import Derived.Test.YtibgiohijknmbaaGreatDoorParse
namespace Go.Proofs.YtibgiohijknmbaaGreatDoor
open Go.RowKit
set_option linter.unusedVariables false
set_option linter.unusedSimpArgs false

def sData : ByteArray := ⟨#[100, 97, 116, 97]⟩
def sBlob : ByteArray := ⟨#[98, 108, 111, 98]⟩
def sFile : ByteArray := ⟨#[102, 105, 108, 101]⟩
def sJs : ByteArray := ⟨#[106, 97, 118, 97, 115, 99, 114, 105, 112, 116]⟩
def sAbout : ByteArray := ⟨#[97, 98, 111, 117, 116]⟩
def sBlank : ByteArray := ⟨#[98, 108, 97, 110, 107]⟩
def sSrcdoc : ByteArray := ⟨#[115, 114, 99, 100, 111, 99]⟩
def sortI (sch : ByteArray) (opq : Bool) (text : ByteArray) : Int :=
  if sch = sData then 0 else if sch = sBlob then 1 else if sch = sFile then 2 else if sch = sJs then 6
  else if sch = sAbout then (if opq = true ∧ text = sBlank then 3 else if opq = true ∧ text = sSrcdoc then 4 else 5) else 7
theorem str_ne' {s : ByteArray} {a : Array UInt8} (h : ¬ s = ⟨a⟩) : ¬ s = ⟨a⟩ ∧ ¬ s.toList = a.toList ∧ (s.toList == a.toList) = false := by
  have h2 : ¬ s.toList = a.toList := by
    rw [ByteArray.toList_eq]
    intro e
    apply h
    apply ByteArray.ext
    exact Array.toList_inj.1 e
  exact ⟨h, h2, by simpa using h2⟩

set_option maxRecDepth 100000 in
set_option maxHeartbeats 1000000 in
theorem sort_c (p : PSt) (pa : Option Addr) (pn pc : Nat) (hp : p.path = .slice pa pn pc) (w : World) :
    Calls Tryz.prog 51 #[.agg (PSt.url p)] w fun e w' => e = .returned (.int .i64 (sortI p.sch p.opq p.text)) ∧ Below w.heap.size w w' := by
  obtain ⟨sch, user, pass, host, hasHost, port, opq, text, path, hasQ, hasF, query, frag, rest, q, f, bad⟩ := p
  simp only at hp
  subst hp
  unfold PSt.url sortI
  simp only
  have hb0 : Below w.heap.size w (w.alloc (.cells #[.string sch, .string user, .string pass, .string host, .bool hasHost, .int .i64 port, .bool opq, .string text, .slice pa pn pc, .bool hasQ, .bool hasF, .string query, .string frag] 41)) := (Below.refl _ _).alloc (Nat.le_refl _) _
  by_cases e1 : sch = sData
  · subst e1
    rw [if_pos rfl]
    unfold sData at *
    go_enter Tryz.func51, Tryz.ntmps51
    go_wp2
    go_ret
    exact ⟨rfl, hb0⟩
  by_cases e2 : sch = sBlob
  · subst e2
    rw [if_neg e1, if_pos rfl]
    clear e1
    unfold sBlob at *
    go_enter Tryz.func51, Tryz.ntmps51
    go_wp2
    go_ret
    exact ⟨rfl, hb0⟩
  by_cases e3 : sch = sFile
  · subst e3
    rw [if_neg e1, if_neg e2, if_pos rfl]
    clear e1 e2
    unfold sFile at *
    go_enter Tryz.func51, Tryz.ntmps51
    go_wp2
    go_ret
    exact ⟨rfl, hb0⟩
  by_cases e4 : sch = sJs
  · subst e4
    rw [if_neg e1, if_neg e2, if_neg e3, if_pos rfl]
    clear e1 e2 e3
    unfold sJs at *
    go_enter Tryz.func51, Tryz.ntmps51
    go_wp2
    go_ret
    exact ⟨rfl, hb0⟩
  by_cases e5 : sch = sAbout
  · subst e5
    rw [if_neg e1, if_neg e2, if_neg e3, if_neg e4, if_pos rfl]
    clear e1 e2 e3 e4
    unfold sAbout at *
    cases opq
    · simp only [Bool.false_eq_true, false_and, if_false]
      go_enter Tryz.func51, Tryz.ntmps51
      go_wp2
      go_ret
      exact ⟨rfl, hb0⟩
    · simp only [true_and]
      by_cases e6 : text = sBlank
      · subst e6
        rw [if_pos rfl]
        unfold sBlank at *
        go_enter Tryz.func51, Tryz.ntmps51
        go_wp2
        go_ret
        exact ⟨rfl, hb0⟩
      by_cases e7 : text = sSrcdoc
      · subst e7
        rw [if_neg e6, if_pos rfl]
        clear e6
        unfold sSrcdoc at *
        go_enter Tryz.func51, Tryz.ntmps51
        go_wp2
        go_ret
        exact ⟨rfl, hb0⟩
      · rw [if_neg e6, if_neg e7]
        unfold sBlank at e6
        unfold sSrcdoc at e7
        obtain ⟨a1, a2, a3⟩ := str_ne' e6
        obtain ⟨b1, b2, b3⟩ := str_ne' e7
        clear e6 e7
        go_enter Tryz.func51, Tryz.ntmps51
        go_wp2
        go_ret
        exact ⟨rfl, hb0⟩
  · rw [if_neg e1, if_neg e2, if_neg e3, if_neg e4, if_neg e5]
    unfold sData at e1
    unfold sBlob at e2
    unfold sFile at e3
    unfold sJs at e4
    unfold sAbout at e5
    obtain ⟨a1, a2, a3⟩ := str_ne' e1
    obtain ⟨b1, b2, b3⟩ := str_ne' e2
    obtain ⟨c1, c2, c3⟩ := str_ne' e3
    obtain ⟨d1, d2, d3⟩ := str_ne' e4
    obtain ⟨f1, f2, f3⟩ := str_ne' e5
    clear e1 e2 e3 e4 e5
    go_enter Tryz.func51, Tryz.ntmps51
    go_wp2
    go_ret
    exact ⟨rfl, hb0⟩
end Go.Proofs.YtibgiohijknmbaaGreatDoor
