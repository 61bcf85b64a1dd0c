/-
  A nil stack's fetches: about:blank, blob:null/x.
-/
import Derived.Test.YtibgiohijknmbaaGreatDoorSFetch
namespace Go.Proofs.YtibgiohijknmbaaGreatDoor
open Go.RowKit
set_option linter.unusedVariables false
set_option linter.unusedSimpArgs false

def opqP (sch rest : List UInt8) : PSt := { pst0 with sch := bstr sch, opq := true, text := bstr rest }
instance (r : List UInt8) : Decidable (RestOk r) := by unfold RestOk; infer_instance
theorem parse_is (sch rest : List UInt8) (s : ByteArray) (m : Int) (w : World) (hT : Lib.Utf8Tabs 1 2 w) (hm : w.cell? ⟨0, 0, none⟩ = some (.int .i64 m)) (h0 : 0 < w.heap.size) (hs : s.size ≤ 65536)
    (hst : s.data.toList = opqText sch rest [] false) (h1 : SchemeOk sch) (h2 : RestOk rest) :
    Calls Tryz.prog 26 #[.string s, .pointer none] w (ParseIs w (opqP sch rest)) :=
  (parse_opq sch rest [] false s m w hT hm h0 hs hst (fun _ => rfl) h1 h2 (by decide)).mono fun e w' ⟨pa, pn, pc, he, hb⟩ => ⟨pa, pn, pc, he, hb⟩

def aboutS : ByteArray := ⟨#[97, 98, 111, 117, 116, 58, 98, 108, 97, 110, 107]⟩
def blobS : ByteArray := ⟨#[98, 108, 111, 98, 58, 110, 117, 108, 108, 47, 120]⟩
theorem nilfetch_about (os oh : ByteArray) (op on : Int) (m : Int) (w : World) (hT : Lib.Utf8Tabs 1 2 w) (hm : w.cell? ⟨0, 0, none⟩ = some (.int .i64 m)) (h0 : 0 < w.heap.size) :
    Calls Tryz.prog 18 #[.pointer none, .string aboutS, .agg (oriV os oh op on), .pointer none] w fun e w' => e = .returned (.agg (ansV 3 200 0 0 nothingS (.slice none 0 0))) ∧ Below w.heap.size w w' :=
  sfetch_c none aboutS os oh op on none 3 200 0 0 nothingS none 0 0 w fun W hb =>
    fetch_plain _ aboutS os oh op on none (opqP [97, 98, 111, 117, 116] [98, 108, 97, 110, 107]) W (fun X hX =>
      parse_is _ _ aboutS m X (utf8tabs_below hT (hb.trans (hX.mono hb.size))) (((hb.trans (hX.mono hb.size)).cell (p := ⟨0, 0, none⟩) h0).trans hm) (Nat.lt_of_lt_of_le h0 (hb.trans (hX.mono hb.size)).size) (by decide) (by decide) (by decide) (by decide)) (by decide)
set_option maxRecDepth 100000 in
theorem nilfetch_blob (os oh : ByteArray) (op on : Int) (m : Int) (w : World) (hT : Lib.Utf8Tabs 1 2 w) (hm : w.cell? ⟨0, 0, none⟩ = some (.int .i64 m)) (h0 : 0 < w.heap.size) :
    Calls Tryz.prog 18 #[.pointer none, .string blobS, .agg (oriV os oh op on), .pointer none] w fun e w' => e = .returned (.agg (ansV 1 0 0 0 ⟨#[]⟩ (.slice none 0 0))) ∧ Below w.heap.size w w' :=
  sfetch_c none blobS os oh op on none 1 0 0 0 ⟨#[]⟩ none 0 0 w fun W hb =>
    fetch_noblob none blobS os oh op on none (opqP [98, 108, 111, 98] [110, 117, 108, 108, 47, 120]) W (fun X hX =>
      parse_is _ _ blobS m X (utf8tabs_below hT (hb.trans (hX.mono hb.size))) (((hb.trans (hX.mono hb.size)).cell (p := ⟨0, 0, none⟩) h0).trans hm) (Nat.lt_of_lt_of_le h0 (hb.trans (hX.mono hb.size)).size) (by decide) (by decide) (by decide) (by decide)) (by decide)
      (fun X => by rfl)
      (fun X pa pn pc hX => (blob_nil _ _ _ _ _ _ _ _ pa pn pc _ _ _ _ os oh op on X).mono fun e w' ⟨he, hb⟩ => ⟨none, he, hb⟩)
end Go.Proofs.YtibgiohijknmbaaGreatDoor
