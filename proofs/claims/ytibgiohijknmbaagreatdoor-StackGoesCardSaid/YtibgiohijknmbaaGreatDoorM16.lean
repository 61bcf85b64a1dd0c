/-
  Joined texts: Row.
-/
import Derived.Test.YtibgiohijknmbaaGreatDoorM15
import Derived.Test.YtibgiohijknmbaaGreatDoorRows
import Derived.ChangeSame
import Derived.ChangeVars
import Derived.JoinedOf
import Derived.RowKit
import Derived.RowKitTokens
import Derived.LaidLaws
import Derived.LaidHandle
import Derived.Lib.LaidU8T
import Derived.Lay
import Derived.MakeChecks
import Derived.HandedShaped
import Derived.Carry
import Derived.OpenShut
import Derived.ShutString
import Derived.Shelf.Vars
import Derived.ChangeMaps5
/-
  What the rows of this seat share: from a row's condition to the tables and the cell that the walks read; an origin's cells.
-/
namespace Go.Proofs.YtibgiohijknmbaaGreatDoor
open Go.RowKit Go.Shelf Go.Lib
open Go.ChangeShapes Go.WideShapes
open Go.ChangeMaps (open_string shut_string)
set_option linter.unusedVariables false
set_option maxRecDepth 100000
set_option linter.unusedSimpArgs false

theorem own : ownKnob Tryz.prog.godebug = none := by kernel_rfl
theorem laidOut : laidOutB Tryz.prog = true := by kernel_rfl

/-- The plain wrap under a condition, the world's shape kept. -/
theorem handed_and_shaped {H : Type} {enc : TypeId × Value → H} {a : Assume} {C : Checked} {os : Os} {f : FuncId} {fn : Func} {s : ChangeSpec} {conds : List PathCond} {apart fresh handsOn again : Bool} {X : World → Array Value → Prop}
    (hX : ∀ (w w' : World) (args : Array Value), w.heap = w'.heap → X w args → X w' args)
    (own : ownKnob C.prog.godebug = none) (started : os.Started) (noInit : C.prog.inits.idxOf? f = none) (hfn : C.prog.funcs[f]? = some fn)
    (witness : ∃ (w : World) (tape : Tape) (i : Input), w.os = os ∧ (w.forCall tape i).Shaped C.prog ∧ i.vars = [] ∧ Input.okWide C.prog (w.forCall tape i) .any w.heap.size f i ∧
      ((s.pre enc C.prog fn conds apart (w.forCall tape i).memory i.args ∧ X (w.forCall tape i).memory i.args) ∧ sizedMet enc C.prog fn (OpenSpec.ofChange s) apart (w.forCall tape i).memory i.args) ∧ a.holds C.prog (lone (Frame.enter C.prog f i.args .normal) [] (w.forCall tape i)))
    (contract : ∀ (W : World) (base : Nat) (args : Array Value) (ds gs : List (DataW H)) (before : List MemPlace),
      (∀ (j : Nat) t v, fn.params[j]? = some t → args[j]? = some v → Value.okWide C.prog W .any base t v) →
      DataW.Whole enc C.prog fn.params.toList s.vars apart W args.toList ds gs before →
      (DataW.weightsEach C.prog (fn.params.toList ++ s.plain.varTypes C.prog) (ds ++ gs)).all (· ≤ reachBytes) = true → X W args → W.ShapedOpen C.prog →
      Calls C.prog f args W fun e W' => ∃ v, e = .returned v ∧ s.post enc C.prog fn apart fresh handsOn again W args v W') :
    ReturnsInHanded a C os f .any (fun w args => (s.pre enc C.prog fn conds apart w args ∧ X w args) ∧ sizedMet enc C.prog fn (OpenSpec.ofChange s) apart w args) (s.post enc C.prog fn apart fresh handsOn again) := by
  refine returnsInHanded_of_calls own started noInit witness ?_
  intro w tape i _ hsh _ hok hpre hholds
  obtain ⟨_, _, _, fn', hfn', _, _, _, _, hval⟩ := hok
  have e : fn' = fn := Option.some.inj (hfn'.symm.trans hfn)
  subst e
  obtain ⟨⟨⟨ds, gs, before, hw, hc⟩, hx⟩, hz⟩ := hpre
  have hw' := DataW.Whole.of_heap (w' := w.forCall tape i) (by rfl) hw
  refine (contract (w.forCall tape i) w.heap.size i.args ds gs before hval hw' (hz.weights hw) (hX _ _ _ (by rfl) hx) hsh).mono fun e W' ⟨v, he, hp⟩ => ?_
  subst he
  exact ChangeSpec.post_blind hp

/-- The list of the variables that the rows tie. -/
def laidL : List (String × DataW Unit) := [("math/bits.deBruijn32tab", Rows.laid_math_bits_deBruijn32tab), ("math/bits.deBruijn64tab", Rows.laid_math_bits_deBruijn64tab), ("internal/strconv.uint64pow10", Rows.laid_internal_strconv_uint64pow10), ("unicode/utf8.acceptRanges", Rows.laid_unicode_utf8_acceptRanges), ("strconv.ErrRange", Rows.laid_strconv_ErrRange), ("strconv.ErrSyntax", Rows.laid_strconv_ErrSyntax), ("unicode/utf8.first", Rows.laid_unicode_utf8_first)]
theorem first_eq : (Rows.laid_unicode_utf8_first : DataW Unit) = firstData := by kernel_rfl
theorem accept_eq : (Rows.laid_unicode_utf8_acceptRanges : DataW Unit) = acceptData := by kernel_rfl
theorem tabs_of_laid {W : World} (h : laidMetH Tryz.prog laidL W) : Lib.Utf8Tabs 1 2 W := by
  rw [MakeChecks.laidMetH_plain _ _ _ (by kernel_rfl)] at h
  have h1 : VarReads Tryz.prog W "unicode/utf8.first" firstData := by
    rw [← first_eq]
    exact Lib.laidMet.reads h (by unfold laidL; simp)
  have h2 : VarReads Tryz.prog W "unicode/utf8.acceptRanges" acceptData := by
    rw [← accept_eq]
    exact Lib.laidMet.reads h (by unfold laidL; simp)
  exact utf8Tabs_of_readsT (U8Types.of260 Tryz.lays260) ⟨by kernel_rfl, by kernel_rfl, by kernel_rfl, by kernel_rfl, by kernel_rfl, by kernel_rfl, by kernel_rfl⟩ h1 h2
theorem max_of_shaped {W : World} (h : W.ShapedOpen Tryz.prog) : ∃ m, W.cell? ⟨0, 0, none⟩ = some (.int .i64 m) :=
  cell_of_shapedOpen_int (t := 3) (zero := #[.int .i64 0]) h (of_decide_eq_true (by kernel_rfl)) (by kernel_rfl) rfl (by kernel_rfl) (by kernel_rfl) Tryz.underlying3
theorem pos_of_max {W : World} {m : Int} (h : W.cell? ⟨0, 0, none⟩ = some (.int .i64 m)) : 0 < W.heap.size := by
  rcases Nat.eq_zero_or_pos W.heap.size with h' | h'
  · simp [World.cell?, Array.getElem?_eq_none (Nat.le_of_eq h')] at h
  · exact h'

theorem cell_str {W : World} {r : Reach} {b : Nat} {v : Value} (h : Cell.okWide Tryz.prog W r b 9 v) : ∃ s, v = .string s := by
  exact okWide_string Tryz.underlying9 (r := r) (base := b) (w := W) (by simp only [Value.okWide, Tryz.underlying9]; exact h)
theorem cell_int {W : World} {r : Reach} {b : Nat} {v : Value} (h : Cell.okWide Tryz.prog W r b 3 v) : ∃ n, v = .int .i64 n := by
  exact okWide_int Tryz.underlying3 (r := r) (base := b) (w := W) (by simp only [Value.okWide, Tryz.underlying3]; exact h)
theorem cell_i64 {W : World} {r : Reach} {b : Nat} {v : Value} (h : Cell.okWide Tryz.prog W r b 2 v) : ∃ n, v = .int .i64 n := by
  exact okWide_int Tryz.underlying2 (r := r) (base := b) (w := W) (by simp only [Value.okWide, Tryz.underlying2]; exact h)
theorem origin_cells {W : World} {b : Nat} {v : Value} (h : Value.okWide Tryz.prog W .any b 23 v) : ∃ os oh op on, v = .agg (oriV os oh op on) := by
  simp only [Value.okWide, Tryz.underlying23] at h
  obtain ⟨cs, rfl, hs, ts, ht, _, hc⟩ := h
  have e : Tryz.prog.cellTypes Tryz.prog.depth 23 = some [9, 9, 3, 2] := by kernel_rfl
  obtain rfl := Option.some.inj (e.symm.trans ht)
  have es : Tryz.prog.cellsOf 23 = 4 := by kernel_rfl
  rw [es] at hs
  obtain ⟨u0, x0, c0⟩ := hc 0 _ (Array.getElem?_eq_getElem (by omega))
  obtain ⟨u1, x1, c1⟩ := hc 1 _ (Array.getElem?_eq_getElem (by omega))
  obtain ⟨u2, x2, c2⟩ := hc 2 _ (Array.getElem?_eq_getElem (by omega))
  obtain ⟨u3, x3, c3⟩ := hc 3 _ (Array.getElem?_eq_getElem (by omega))
  obtain rfl : 9 = u0 := Option.some.inj x0
  obtain rfl : 9 = u1 := Option.some.inj x1
  obtain rfl : 3 = u2 := Option.some.inj x2
  obtain rfl : 2 = u3 := Option.some.inj x3
  obtain ⟨s0, e0⟩ := cell_str c0
  obtain ⟨s1, e1⟩ := cell_str c1
  obtain ⟨s2, e2⟩ := cell_int c2
  obtain ⟨s3, e3⟩ := cell_i64 c3
  refine ⟨s0, s1, s2, s3, ?_⟩
  unfold oriV
  rw [← e0, ← e1, ← e2, ← e3]
  congr 1
  apply Array.ext
  · exact hs
  · intro i h1 h2
    have h2' : i < 4 := h2
    match i, h2' with
    | 0, _ => rfl
    | 1, _ => rfl
    | 2, _ => rfl
    | 3, _ => rfl
end Go.Proofs.YtibgiohijknmbaaGreatDoor
