/-
  Joined texts: Mail, Take, Take2, Del, Del2, Forget.
-/
import Derived.Test.YtibgiohijknmbaaGreatDoorM11
import Derived.Conc.LoneSelect
/-
  mail.put with room, Mail.Put, Mail.Take.
-/
namespace Go.Proofs.YtibgiohijknmbaaGreatDoor
open Go.RowKit Go.Conc
set_option linter.unusedVariables false
set_option linter.unusedSimpArgs false

set_option maxRecDepth 100000 in
theorem mput1_c (c room s r : Nat) (buf : Array Value) (tm : Bool) (x : ByteArray) (w : World) (hc : w.heap[c]? = some (.chan room buf false s r tm)) (hroom : buf.size < room) :
    Calls Tryz.prog 69 #[.chan (some c), .string x] w fun e w' => e = .returned (.bool true) ∧ w' = w.setChan c room (buf.push (.string x)) false (s + 1) r tm := by
  refine calls_of_loneTo fun cs => ?_
  have e : Frame.enter Tryz.prog 69 #[.chan (some c), .string x] .normal = (base 69).at ⟨#[.chan (some c), .string x, undef, undef, undef, undef, undef, undef, undef, undef], []⟩ [.code (Tryz.f69.body.getD .skip)] := by
    simp [Frame.enter, Frame.at, Tryz.func69, base, Tryz.f69]
  rw [e]
  refine LoneTo.goes (n := 40) ?_
  simp only [Tryz.f69, Option.getD_some]
  s_c stepG_seq
  s_reg
  s_op
  s_c stepG_region_end
  s_c stepG_seq
  s_c stepG_seq
  s_reg
  s_op
  s_c stepG_region_end
  s_reg
  s_op
  s_c stepG_region_end
  s_c stepG_seq
  s_reg
  s_stop
  refine LoneTo.step (step_lone_select_send_room (c := c) (cap := room) (buf := buf) (s := s) (r := r) (tm := tm) (stepG_comm (cases := #[scase c (.string x) (.string ⟨#[]⟩)]) (blocking := false) (shape := .select) (w' := w) rfl rfl (by decide) (by simp [go_sem, execOp, scase, Act.eval])) hc hroom) ?_
  rw [Frame.finish_at]
  walk_nrm
  refine LoneTo.goes (n := 11) ?_
  s_op
  s_op
  s_c stepG_region_end
  s_c stepG_block
  s_cond true
  s_c stepG_seq
  s_reg
  s_op
  s_c stepG_region_end
  s_c stepG_ret'
  s_stop
  refine LoneTo.done ⟨.returned (.bool true), _, rfl, ⟨rfl, rfl⟩, rfl, rfl, rfl, rfl, _, Tryz.func69, by simp [results, Tryz.f69, Frame.at]⟩

theorem setChan_other (w : World) (c cap : Nat) (buf : Array Value) (cl : Bool) (s r : Nat) (tm : Bool) (k : Nat) (h : k ≠ c) : (w.setChan c cap buf cl s r tm).heap[k]? = w.heap[k]? := by
  simp only [World.setChan]
  rw [Array.getElem?_setIfInBounds_ne (fun e => h e.symm)]
theorem setChan_kept (w : World) (c cap : Nat) (buf : Array Value) (cl : Bool) (s r : Nat) (tm : Bool) (cap0 : Nat) (buf0 : Array Value) (cl0 : Bool) (s0 r0 : Nat) (tm0 : Bool) (hc : w.heap[c]? = some (.chan cap0 buf0 cl0 s0 r0 tm0)) : TyKept [] w (w.setChan c cap buf cl s r tm) := by
  intro k cc T fz hk _
  refine setChan_other _ _ _ _ _ _ _ _ _ ?_
  rintro rfl
  rw [hc] at hk
  cases Option.some.inj hk
def MPutOk (B mb room : Nat) (us ps : List ByteArray) (w : World) (e : Ending) (w' : World) : Prop :=
  e = .returned (.bool true) ∧ MailAt w' B mb room us ps ∧ Below B w w' ∧ TyKept [] w w'
theorem map_push (us : List ByteArray) (x : ByteArray) : (us.map Value.string).toArray.push (.string x) = ((us ++ [x]).map Value.string).toArray := by simp

set_option maxRecDepth 100000 in
theorem mput_urgent (B mb room : Nat) (us ps : List ByteArray) (x : ByteArray) (w : World) (hM : MailAt w B mb room us ps) (hr : us.length < room) :
    Calls Tryz.prog 32 #[.pointer (some ⟨mb, 0, none⟩), .string x, .bool true] w (MPutOk B mb room (us ++ [x]) ps w) := by
  obtain ⟨hB, a, b, hab, ha, hb, hm, ⟨s1, r1, h1⟩, ⟨s2, r2, h2⟩⟩ := hM
  have c0 : w.cell? ⟨mb, 0, none⟩ = some (.chan (some a)) := Lib.cell_of_heap hm 0
  have hp := mput1_c a room s1 r1 _ false x w h1 (by simpa using hr)
  rw [map_push] at hp
  have hal : a < w.heap.size := (Array.getElem?_eq_some_iff.1 h1).1
  have hk := setChan_kept w a room ((us ++ [x]).map Value.string).toArray false (s1 + 1) r1 false _ _ _ _ _ _ h1
  have hres : MailAt (w.setChan a room ((us ++ [x]).map Value.string).toArray false (s1 + 1) r1 false) B mb room (us ++ [x]) ps :=
    ⟨hB, a, b, hab, ha, hb, (hk _ _ _ _ hm (by simp)).trans hm, ⟨_, _, heap_setChan _ _ _ _ _ _ _ _ hal⟩, ⟨_, _, (setChan_other _ _ _ _ _ _ _ _ _ (fun e => hab e.symm)).trans h2⟩⟩
  have hbl : Below B w (w.setChan a room ((us ++ [x]).map Value.string).toArray false (s1 + 1) r1 false) := below_setChan (Below.refl _ _) ha _ _ _ _ _ _
  have HH := Lib.hid (And.intro hres (And.intro hbl hk))
  generalize w.setChan a room ((us ++ [x]).map Value.string).toArray false (s1 + 1) r1 false = W at *
  clear hres hbl hk h1 h2 hm hr
  go_enter Tryz.func32, Tryz.ntmps32
  go_wp2_with fail
  refine hp.mono ?_
  rintro e w1 ⟨rfl, rfl⟩
  go_wp2_with fail
  go_ret
  exact ⟨rfl, HH.out⟩
set_option maxRecDepth 100000 in
theorem mput_plain (B mb room : Nat) (us ps : List ByteArray) (x : ByteArray) (w : World) (hM : MailAt w B mb room us ps) (hr : ps.length < room) :
    Calls Tryz.prog 32 #[.pointer (some ⟨mb, 0, none⟩), .string x, .bool false] w (MPutOk B mb room us (ps ++ [x]) w) := by
  obtain ⟨hB, a, b, hab, ha, hb, hm, ⟨s1, r1, h1⟩, ⟨s2, r2, h2⟩⟩ := hM
  have c0 : w.cell? ⟨mb, 1, none⟩ = some (.chan (some b)) := Lib.cell_of_heap hm 1
  have hp := mput1_c b room s2 r2 _ false x w h2 (by simpa using hr)
  rw [map_push] at hp
  have hbl' : b < w.heap.size := (Array.getElem?_eq_some_iff.1 h2).1
  have hk := setChan_kept w b room ((ps ++ [x]).map Value.string).toArray false (s2 + 1) r2 false _ _ _ _ _ _ h2
  have hres : MailAt (w.setChan b room ((ps ++ [x]).map Value.string).toArray false (s2 + 1) r2 false) B mb room us (ps ++ [x]) :=
    ⟨hB, a, b, hab, ha, hb, (hk _ _ _ _ hm (by simp)).trans hm, ⟨_, _, (setChan_other _ _ _ _ _ _ _ _ _ hab).trans h1⟩, ⟨_, _, heap_setChan _ _ _ _ _ _ _ _ hbl'⟩⟩
  have hbl : Below B w (w.setChan b room ((ps ++ [x]).map Value.string).toArray false (s2 + 1) r2 false) := below_setChan (Below.refl _ _) hb _ _ _ _ _ _
  have HH := Lib.hid (And.intro hres (And.intro hbl hk))
  generalize w.setChan b room ((ps ++ [x]).map Value.string).toArray false (s2 + 1) r2 false = W at *
  clear hres hbl hk h1 h2 hm hr
  go_enter Tryz.func32, Tryz.ntmps32
  go_wp2_with fail
  refine hp.mono ?_
  rintro e w1 ⟨rfl, rfl⟩
  go_wp2_with fail
  go_ret
  exact ⟨rfl, HH.out⟩
end Go.Proofs.YtibgiohijknmbaaGreatDoor

/-
  Mail.Take.
-/
namespace Go.Proofs.YtibgiohijknmbaaGreatDoor
open Go.RowKit Go.Conc
set_option linter.unusedVariables false
set_option linter.unusedSimpArgs false

set_option maxRecDepth 100000 in
theorem take1 (mb a s r cap : Nat) (buf : Array Value) (tm : Bool) (x : ByteArray) (w : World) (hm0 : w.cell? ⟨mb, 0, none⟩ = some (.chan (some a))) (h1 : w.heap[a]? = some (.chan cap buf false s r tm)) (hne : 0 < buf.size) (hx : buf.getD 0 undef = .string x) :
    Calls Tryz.prog 33 #[.pointer (some ⟨mb, 0, none⟩)] w fun e w' => e = .returned (.tuple #[.string x, .bool true, .bool true]) ∧ w' = w.setChan a cap (buf.extract 1 buf.size) false s (r + 1) tm := by
  refine calls_of_loneTo fun cs => ?_
  have e : Frame.enter Tryz.prog 33 #[.pointer (some ⟨mb, 0, none⟩)] .normal = (base 33).at ⟨#[.pointer (some ⟨mb, 0, none⟩), undef, undef, undef, undef, undef, undef, undef, undef, undef, undef, undef, undef, undef, undef, undef, undef, undef, undef, undef, undef, undef, undef, undef, undef, undef, undef, undef, undef, undef], []⟩ [.code (Tryz.f33.body.getD .skip)] := by
    simp [Frame.enter, Frame.at, Tryz.func33, base, Tryz.f33]
  rw [e]
  refine LoneTo.goes (n := 60) ?_
  simp only [Tryz.f33, Option.getD_some]
  s_c stepG_seq
  s_reg
  s_op
  s_op
  s_op
  s_c stepG_region_end
  s_c stepG_seq
  s_reg
  s_op
  s_c stepG_region_end
  s_c stepG_seq
  s_c stepG_seq
  s_reg
  s_op
  s_op
  s_c stepG_region_end
  s_cond false
  s_c stepG_skip
  s_c stepG_seq
  s_c stepG_seq
  s_reg
  s_op
  s_op
  s_op
  s_op
  s_c stepG_region_end
  s_c stepG_seq
  s_reg
  s_stop
  refine LoneTo.step (step_lone_select_recv_buf (c := a) (z := .string ⟨#[]⟩) (cap := cap) (buf := buf) (closed := false) (s := s) (r := r) (tm := tm) (stepG_comm (cases := #[rcase a (.string ⟨#[]⟩)]) (blocking := false) (shape := .select) (w' := w) rfl rfl (by decide) (by simp [go_sem, execOp, rcase, Act.eval])) h1 hne) ?_
  rw [Frame.finish_at, hx]
  walk_nrm
  refine LoneTo.goes (n := 40) ?_
  s_op
  s_op
  s_c stepG_region_end
  s_c stepG_block
  s_cond true
  s_c stepG_seq
  s_reg
  s_op
  s_op
  s_c stepG_region_end
  s_c stepG_seq
  s_reg
  s_op
  s_op
  s_op
  s_op
  s_c stepG_region_end
  s_c stepG_ret'
  s_stop
  refine LoneTo.done ⟨.returned (.tuple #[.string x, .bool true, .bool true]), _, rfl, ⟨rfl, rfl⟩, rfl, rfl, rfl, rfl, _, Tryz.func33, by simp [results, Tryz.f33, Frame.at]⟩

set_option maxRecDepth 100000 in
theorem take2 (mb a b s r cap s0 r0 cap0 : Nat) (buf : Array Value) (tm tm0 : Bool) (x : ByteArray) (w : World) (hm0 : w.cell? ⟨mb, 0, none⟩ = some (.chan (some a))) (hm1 : w.cell? ⟨mb, 1, none⟩ = some (.chan (some b))) (h0 : w.heap[a]? = some (.chan cap0 #[] false s0 r0 tm0)) (h1 : w.heap[b]? = some (.chan cap buf false s r tm)) (hne : 0 < buf.size) (hx : buf.getD 0 undef = .string x) :
    Calls Tryz.prog 33 #[.pointer (some ⟨mb, 0, none⟩)] w fun e w' => e = .returned (.tuple #[.string x, .bool false, .bool true]) ∧ w' = w.setChan b cap (buf.extract 1 buf.size) false s (r + 1) tm := by
  refine calls_of_loneTo fun cs => ?_
  have e : Frame.enter Tryz.prog 33 #[.pointer (some ⟨mb, 0, none⟩)] .normal = (base 33).at ⟨#[.pointer (some ⟨mb, 0, none⟩), undef, undef, undef, undef, undef, undef, undef, undef, undef, undef, undef, undef, undef, undef, undef, undef, undef, undef, undef, undef, undef, undef, undef, undef, undef, undef, undef, undef, undef], []⟩ [.code (Tryz.f33.body.getD .skip)] := by
    simp [Frame.enter, Frame.at, Tryz.func33, base, Tryz.f33]
  rw [e]
  refine LoneTo.goes (n := 60) ?_
  simp only [Tryz.f33, Option.getD_some]
  s_c stepG_seq
  s_reg
  s_op
  s_op
  s_op
  s_c stepG_region_end
  s_c stepG_seq
  s_reg
  s_op
  s_c stepG_region_end
  s_c stepG_seq
  s_c stepG_seq
  s_reg
  s_op
  s_op
  s_c stepG_region_end
  s_cond false
  s_c stepG_skip
  s_c stepG_seq
  s_c stepG_seq
  s_reg
  s_op
  s_op
  s_op
  s_op
  s_c stepG_region_end
  s_c stepG_seq
  s_reg
  s_stop
  refine LoneTo.step (step_lone_select_default (c := a) (z := .string ⟨#[]⟩) (cap := cap0) (s := s0) (r := r0) (tm := tm0) (stepG_comm (cases := #[rcase a (.string ⟨#[]⟩)]) (blocking := false) (shape := .select) (w' := w) rfl rfl (by decide) (by simp [go_sem, execOp, rcase, Act.eval])) h0) ?_
  rw [Frame.finish_at]
  walk_nrm
  refine LoneTo.goes (n := 60) ?_
  s_op
  s_op
  s_c stepG_region_end
  s_c stepG_block
  s_cond false
  s_c stepG_skip
  s_c stepG_inBlock
  s_c stepG_seq
  s_reg
  s_op
  s_op
  s_op
  s_op
  s_c stepG_region_end
  s_c stepG_seq
  s_reg
  s_stop
  refine LoneTo.step (step_lone_select_recv_buf (c := b) (z := .string ⟨#[]⟩) (cap := cap) (buf := buf) (closed := false) (s := s) (r := r) (tm := tm) (stepG_comm (cases := #[rcase b (.string ⟨#[]⟩)]) (blocking := false) (shape := .select) (w' := w) rfl rfl (by decide) (by simp [go_sem, execOp, rcase, Act.eval])) h1 hne) ?_
  rw [Frame.finish_at, hx]
  walk_nrm
  refine LoneTo.goes (n := 40) ?_
  s_op
  s_op
  s_c stepG_region_end
  s_c stepG_block
  s_cond true
  s_c stepG_seq
  s_reg
  s_op
  s_op
  s_c stepG_region_end
  s_c stepG_seq
  s_reg
  s_op
  s_op
  s_op
  s_op
  s_c stepG_region_end
  s_c stepG_ret'
  s_stop
  refine LoneTo.done ⟨.returned (.tuple #[.string x, .bool false, .bool true]), _, rfl, ⟨rfl, rfl⟩, rfl, rfl, rfl, rfl, _, Tryz.func33, by simp [results, Tryz.f33, Frame.at]⟩

set_option maxRecDepth 100000 in
theorem take3 (mb a b s r cap s0 r0 cap0 : Nat) (tm tm0 : Bool) (w : World) (hm0 : w.cell? ⟨mb, 0, none⟩ = some (.chan (some a))) (hm1 : w.cell? ⟨mb, 1, none⟩ = some (.chan (some b))) (h0 : w.heap[a]? = some (.chan cap0 #[] false s0 r0 tm0)) (h1 : w.heap[b]? = some (.chan cap #[] false s r tm)) :
    Calls Tryz.prog 33 #[.pointer (some ⟨mb, 0, none⟩)] w fun e w' => e = .returned (.tuple #[.string ⟨#[]⟩, .bool false, .bool false]) ∧ w' = w := by
  refine calls_of_loneTo fun cs => ?_
  have e : Frame.enter Tryz.prog 33 #[.pointer (some ⟨mb, 0, none⟩)] .normal = (base 33).at ⟨#[.pointer (some ⟨mb, 0, none⟩), undef, undef, undef, undef, undef, undef, undef, undef, undef, undef, undef, undef, undef, undef, undef, undef, undef, undef, undef, undef, undef, undef, undef, undef, undef, undef, undef, undef, undef], []⟩ [.code (Tryz.f33.body.getD .skip)] := by
    simp [Frame.enter, Frame.at, Tryz.func33, base, Tryz.f33]
  rw [e]
  refine LoneTo.goes (n := 60) ?_
  simp only [Tryz.f33, Option.getD_some]
  s_c stepG_seq
  s_reg
  s_op
  s_op
  s_op
  s_c stepG_region_end
  s_c stepG_seq
  s_reg
  s_op
  s_c stepG_region_end
  s_c stepG_seq
  s_c stepG_seq
  s_reg
  s_op
  s_op
  s_c stepG_region_end
  s_cond false
  s_c stepG_skip
  s_c stepG_seq
  s_c stepG_seq
  s_reg
  s_op
  s_op
  s_op
  s_op
  s_c stepG_region_end
  s_c stepG_seq
  s_reg
  s_stop
  refine LoneTo.step (step_lone_select_default (c := a) (z := .string ⟨#[]⟩) (cap := cap0) (s := s0) (r := r0) (tm := tm0) (stepG_comm (cases := #[rcase a (.string ⟨#[]⟩)]) (blocking := false) (shape := .select) (w' := w) rfl rfl (by decide) (by simp [go_sem, execOp, rcase, Act.eval])) h0) ?_
  rw [Frame.finish_at]
  walk_nrm
  refine LoneTo.goes (n := 60) ?_
  s_op
  s_op
  s_c stepG_region_end
  s_c stepG_block
  s_cond false
  s_c stepG_skip
  s_c stepG_inBlock
  s_c stepG_seq
  s_reg
  s_op
  s_op
  s_op
  s_op
  s_c stepG_region_end
  s_c stepG_seq
  s_reg
  s_stop
  refine LoneTo.step (step_lone_select_default (c := b) (z := .string ⟨#[]⟩) (cap := cap) (s := s) (r := r) (tm := tm) (stepG_comm (cases := #[rcase b (.string ⟨#[]⟩)]) (blocking := false) (shape := .select) (w' := w) rfl rfl (by decide) (by simp [go_sem, execOp, rcase, Act.eval])) h1) ?_
  rw [Frame.finish_at]
  walk_nrm
  refine LoneTo.goes (n := 40) ?_
  s_op
  s_op
  s_c stepG_region_end
  s_c stepG_block
  s_cond false
  s_c stepG_seq
  s_reg
  s_op
  s_op
  s_op
  s_op
  s_c stepG_region_end
  s_c stepG_ret'
  s_stop
  refine LoneTo.done ⟨.returned (.tuple #[.string ⟨#[]⟩, .bool false, .bool false]), _, rfl, ⟨rfl, rfl⟩, rfl, rfl, rfl, rfl, _, Tryz.func33, by simp [results, Tryz.f33, Frame.at]⟩
end Go.Proofs.YtibgiohijknmbaaGreatDoor

/-
  Mail.Take of a mail in memory; (*Stack).Notice.
-/
namespace Go.Proofs.YtibgiohijknmbaaGreatDoor
open Go.RowKit Go.Conc
set_option linter.unusedVariables false
set_option linter.unusedSimpArgs false

def MTakeOk (B mb room : Nat) (x : ByteArray) (urg : Bool) (us ps : List ByteArray) (w : World) (e : Ending) (w' : World) : Prop :=
  e = .returned (.tuple #[.string x, .bool urg, .bool true]) ∧ MailAt w' B mb room us ps ∧ Below B w w' ∧ TyKept [] w w'
theorem buf_head (x : ByteArray) (us : List ByteArray) : (((x :: us).map Value.string).toArray).getD 0 undef = .string x := by simp
theorem buf_tail (x : ByteArray) (us : List ByteArray) : (((x :: us).map Value.string).toArray).extract 1 (((x :: us).map Value.string).toArray).size = (us.map Value.string).toArray := by
  apply Array.ext'
  simp
  exact List.take_of_length_le (by simp)
theorem take_urgent (B mb room : Nat) (x : ByteArray) (us ps : List ByteArray) (w : World) (hM : MailAt w B mb room (x :: us) ps) :
    Calls Tryz.prog 33 #[.pointer (some ⟨mb, 0, none⟩)] w (MTakeOk B mb room x true us ps w) := by
  obtain ⟨hB, a, b, hab, ha, hb, hm, ⟨s1, r1, h1⟩, ⟨s2, r2, h2⟩⟩ := hM
  refine (take1 mb a s1 r1 room _ false x w (Lib.cell_of_heap hm 0) h1 (by simp) (buf_head x us)).mono ?_
  rintro e w' ⟨rfl, rfl⟩
  rw [buf_tail]
  have hal : a < w.heap.size := (Array.getElem?_eq_some_iff.1 h1).1
  have hk := setChan_kept w a room (us.map Value.string).toArray false s1 (r1 + 1) false _ _ _ _ _ _ h1
  exact ⟨rfl, ⟨hB, a, b, hab, ha, hb, (hk _ _ _ _ hm (by simp)).trans hm, ⟨_, _, heap_setChan _ _ _ _ _ _ _ _ hal⟩, ⟨_, _, (setChan_other _ _ _ _ _ _ _ _ _ (fun e => hab e.symm)).trans h2⟩⟩, below_setChan (Below.refl _ _) ha _ _ _ _ _ _, hk⟩
theorem take_plain (B mb room : Nat) (x : ByteArray) (ps : List ByteArray) (w : World) (hM : MailAt w B mb room [] (x :: ps)) :
    Calls Tryz.prog 33 #[.pointer (some ⟨mb, 0, none⟩)] w (MTakeOk B mb room x false [] ps w) := by
  obtain ⟨hB, a, b, hab, ha, hb, hm, ⟨s1, r1, h1⟩, ⟨s2, r2, h2⟩⟩ := hM
  refine (take2 mb a b s2 r2 room s1 r1 room _ false false x w (Lib.cell_of_heap hm 0) (Lib.cell_of_heap hm 1) h1 h2 (by simp) (buf_head x ps)).mono ?_
  rintro e w' ⟨rfl, rfl⟩
  rw [buf_tail]
  have hbl : b < w.heap.size := (Array.getElem?_eq_some_iff.1 h2).1
  have hk := setChan_kept w b room (ps.map Value.string).toArray false s2 (r2 + 1) false _ _ _ _ _ _ h2
  exact ⟨rfl, ⟨hB, a, b, hab, ha, hb, (hk _ _ _ _ hm (by simp)).trans hm, ⟨_, _, (setChan_other _ _ _ _ _ _ _ _ _ hab).trans h1⟩, ⟨_, _, heap_setChan _ _ _ _ _ _ _ _ hbl⟩⟩, below_setChan (Below.refl _ _) hb _ _ _ _ _ _, hk⟩

/-- Notice: what is told next. -/
def NoticeOk (B mb room : Nat) (x : ByteArray) (us ps : List ByteArray) (w : World) (e : Ending) (w' : World) : Prop :=
  e = .returned (.tuple #[.string x, .bool true]) ∧ MailAt w' B mb room us ps ∧ Below B w w' ∧ TyKept [] w w'
set_option maxRecDepth 100000 in
theorem notice_of (B s tb sb mb room : Nat) (most : Int) (x : ByteArray) (urg : Bool) (us ps : List ByteArray) (w : World) (hS : StackAt w B s tb sb mb most)
    (hT : Calls Tryz.prog 33 #[.pointer (some ⟨mb, 0, none⟩)] w (MTakeOk B mb room x urg us ps w)) :
    Calls Tryz.prog 12 #[.pointer (some ⟨s, 0, none⟩)] w (NoticeOk B mb room x us ps w) := by
  have c0 : w.cell? ⟨s, 2, none⟩ = some (.pointer (some ⟨mb, 0, none⟩)) := Lib.cell_of_heap hS.2 2
  clear hS
  go_enter Tryz.func12, Tryz.ntmps12
  go_wp2_with fail
  refine hT.mono ?_
  rintro e w1 ⟨rfl, h1⟩
  have HH := Lib.hid h1
  clear h1
  go_wp2_with fail
  go_ret2
  exact ⟨rfl, HH.out⟩
end Go.Proofs.YtibgiohijknmbaaGreatDoor

/-
  slices.Delete of a table's only entry; table.Del; (*Stack).Forget.
-/
namespace Go.Proofs.YtibgiohijknmbaaGreatDoor
open Go.RowKit
set_option linter.unusedVariables false
set_option linter.unusedSimpArgs false

theorem clear1 (g c : Nat) (v0 v1 : Value) (ty : TypeId) (W : World) (c0 : W.cell? ⟨g, 0, none⟩ = some v0) (c1 : W.cell? ⟨g, 1, none⟩ = some v1) (fz : ∀ j, W.frozen? ⟨g, j, none⟩ = false) :
    (Builtin.clear_ #[125] ty #[.slice (some ⟨g, 0, none⟩) 1 c]).run Tryz.prog W = .ok (.tuple #[]) ((W.setCell ⟨g, 0, none⟩ (.int .i64 0)).setCell ⟨g, 1, none⟩ (.pointer none)) := by
  have hst := run_storeCells_cells (P := Tryz.prog) g 0 [.int .i64 0, .pointer none] 0 W (fun j hj => by
      have hj' : j < 2 := hj
      match j, hj' with
      | 0, _ => simp [c0]
      | 1, _ => simp [c1]) (fun j _ => fz _) (by simp [Value.oneCell'])
  have hz := Tryz.zeroValue124
  simp only [Nat.add_zero] at hst
  simp [Builtin.clear_, run_underlying Tryz.underlying125, hz, Builtin.zeroCells]
  change (Result.andThen (Sem.run Tryz.prog (storeCells ⟨g, 0, none⟩ [.int .i64 0, .pointer none]) W) _) = _
  rw [hst]
  rfl
set_option maxRecDepth 100000 in
set_option maxHeartbeats 1000000 in
theorem del1_c (g cap : Nat) (v0 v1 : Value) (w : World) (hm : cap ≤ maxLen) (h1 : 1 ≤ cap) (c0 : w.cell? ⟨g, 0, none⟩ = some v0) (c1 : w.cell? ⟨g, 1, none⟩ = some v1) (fz : ∀ j, w.frozen? ⟨g, j, none⟩ = false) :
    Calls Tryz.prog 71 #[.slice (some ⟨g, 0, none⟩) 1 cap, .int .i64 0, .int .i64 1] w fun e w' => e = .returned (.slice (some ⟨g, 0, none⟩) 0 cap) ∧ ∃ nq, w' = ((w.drewN nq).setCell ⟨g, 0, none⟩ (.int .i64 0)).setCell ⟨g, 1, none⟩ (.pointer none) := by
  have hcap : ¬ cap = 0 := by omega
  have hm2 : (cap : Int) ≤ 9223372036854775807 := by unfold maxLen at hm; omega
  by_cases hc1 : cap = 1
  · subst hc1
    go_enter Tryz.func71, Tryz.ntmps71
    go_wp2_with fail
    go_region_law (fail)
    have hcl := fun ty c => clear1 g c v0 v1 ty w.drew c0 c1 fz
    go_wp2_with fail
    go_ret
    exact ⟨rfl, 1, rfl⟩
  · have hlt : 1 < cap := by omega
    go_enter Tryz.func71, Tryz.ntmps71
    go_wp2_with fail
    go_region_law (fail)
    have hcl := fun ty c => clear1 g c v0 v1 ty w.drew c0 c1 fz
    go_wp2_with fail
    go_ret
    exact ⟨rfl, 1, rfl⟩
end Go.Proofs.YtibgiohijknmbaaGreatDoor

/-
  table.Del of the only entry; (*Stack).Forget.
-/
namespace Go.Proofs.YtibgiohijknmbaaGreatDoor
open Go.RowKit
set_option linter.unusedVariables false
set_option linter.unusedSimpArgs false

def DelOk (B tb blk : Nat) (room last : Int) (w : World) (e : Ending) (w' : World) : Prop :=
  e = .returned (.tuple #[.pointer (some ⟨blk, 0, none⟩), .bool true]) ∧ TabAt w' B tb [] room last ∧ Below B w w' ∧ TyKept tabTs w w' ∧ ChKept w w'
/-- The world after the only entry went. -/
theorem del_close (B tb blk g cap : Nat) (h room last : Int) (cur : Array Value) (w : World) (nq : Nat) (hBt : B ≤ tb) (hBg : B ≤ g) (hgt : g ≠ tb) (hm : cap ≤ maxLen) (hs : cur.size = cap * 2)
    (hv : w.heap[tb]? = some (.cells #[.slice (some ⟨g, 0, none⟩) 1 cap, .int .i64 room, .int .i64 last] 127 (0, 0))) (hg : w.heap[g]? = some (.cells cur 124 (0, 0))) :
    TabAt ((((w.drewN nq).setCell ⟨g, 0, none⟩ (.int .i64 0)).setCell ⟨g, 1, none⟩ (.pointer none)).setCell ⟨tb, 0, none⟩ (.slice (some ⟨g, 0, none⟩) 0 cap)) B tb [] room last ∧
      Below B w ((((w.drewN nq).setCell ⟨g, 0, none⟩ (.int .i64 0)).setCell ⟨g, 1, none⟩ (.pointer none)).setCell ⟨tb, 0, none⟩ (.slice (some ⟨g, 0, none⟩) 0 cap)) ∧
      TyKept tabTs w ((((w.drewN nq).setCell ⟨g, 0, none⟩ (.int .i64 0)).setCell ⟨g, 1, none⟩ (.pointer none)).setCell ⟨tb, 0, none⟩ (.slice (some ⟨g, 0, none⟩) 0 cap)) ∧
      ChKept w ((((w.drewN nq).setCell ⟨g, 0, none⟩ (.int .i64 0)).setCell ⟨g, 1, none⟩ (.pointer none)).setCell ⟨tb, 0, none⟩ (.slice (some ⟨g, 0, none⟩) 0 cap)) := by
  have e1 := heap_setCell_same (w.drewN nq) g 0 _ _ (.int .i64 0) hg
  have e2 := heap_setCell_same _ g 1 _ _ (.pointer none) e1
  have hoth : ∀ k, k ≠ g → k ≠ tb → ((((w.drewN nq).setCell ⟨g, 0, none⟩ (.int .i64 0)).setCell ⟨g, 1, none⟩ (.pointer none)).setCell ⟨tb, 0, none⟩ (.slice (some ⟨g, 0, none⟩) 0 cap)).heap[k]? = w.heap[k]? := fun k k1 k2 => by
    rw [heap_setCell_other _ _ _ _ k2, heap_setCell_other _ _ _ _ k1, heap_setCell_other _ _ _ _ k1]
    rfl
  have hvt : (((w.drewN nq).setCell ⟨g, 0, none⟩ (.int .i64 0)).setCell ⟨g, 1, none⟩ (.pointer none)).heap[tb]? = some (.cells #[.slice (some ⟨g, 0, none⟩) 1 cap, .int .i64 room, .int .i64 last] 127 (0, 0)) := by
    rw [heap_setCell_other _ _ _ _ (fun e => hgt e.symm), heap_setCell_other _ _ _ _ (fun e => hgt e.symm)]
    exact hv
  refine ⟨⟨hBt, by simp, _, heap_setCell_same _ tb 0 _ _ _ hvt, ?_⟩, ?_, ?_, ?_⟩
  · refine ⟨rfl, .inr ⟨g, cap, (cur.setIfInBounds 0 (.int .i64 0)).setIfInBounds 1 (.pointer none), rfl, hBg, ?_, Nat.zero_le _, hm, ?_, by simp [entV]⟩⟩
    · rw [heap_setCell_other _ _ _ _ hgt]
      exact e2
    · simp [hs]
  · exact ((((Below.refl B w).trans ((below_drewN w nq).mono (Nat.le_of_lt (Nat.lt_of_le_of_lt hBt (Array.getElem?_eq_some_iff.1 hv).1)))).setCell hBg _).setCell hBg _).setCell hBt _
  · intro k c T fz hk hT
    refine hoth k ?_ ?_
    · rintro rfl
      rw [hg] at hk
      injection Option.some.inj hk with _ h2
      exact hT (by simp [← h2, tabTs])
    · rintro rfl
      rw [hv] at hk
      injection Option.some.inj hk with _ h2
      exact hT (by simp [← h2, tabTs])
  · intro k cp buf cl s r tm hk
    refine hoth k ?_ ?_
    · rintro rfl
      rw [hg] at hk
      cases Option.some.inj hk
    · rintro rfl
      rw [hv] at hk
      cases Option.some.inj hk

theorem getF_one (h : Int) (blk : Nat) : getF [(h, blk)] h = some blk := by simp [getF]
theorem firstAt_one (h : Int) (blk : Nat) : firstAt (fun e => e.1 == h) [(h, blk)] = 0 := by
  have e : [(h, blk)].findIdx (fun e => e.1 == h) = 0 := by simp [List.findIdx_cons]
  unfold firstAt
  rw [e]
  rfl
set_option maxRecDepth 100000 in
set_option maxHeartbeats 1000000 in
theorem tdel_c (B tb blk : Nat) (h room last : Int) (w : World) (hT : TabAt w B tb [(h, blk)] room last) :
    Calls Tryz.prog 35 #[.pointer (some ⟨tb, 0, none⟩), .int .i64 h] w (DelOk B tb blk room last w) := by
  have hg := get_c B tb [(h, blk)] room last h w hT
  rw [getF_one] at hg
  unfold optPtr at hg
  simp only [Option.map_some, Option.isSome_some] at hg
  have HT := Lib.hid hT
  clear hT
  go_enter Tryz.func35, Tryz.ntmps35
  go_wp2_with fail
  refine hg.mono ?_
  rintro e w1 ⟨rfl, hb1⟩
  have hT1 := Lib.hid (HT.out.later hb1)
  have HB1 := Lib.hid hb1
  clear hb1
  go_wp2_with fail
  have hf := find_c B tb [(h, blk)] room last h w1 hT1.out
  rw [firstAt_one] at hf
  refine hf.mono ?_
  rintro e w2 ⟨rfl, hb2⟩
  have hT2 := hT1.out.later hb2
  have HB2 := Lib.hid (HB1.out.trans (hb2.mono HB1.out.size))
  clear hb2 hf hg
  obtain ⟨hBt, _, lv, hv, ho⟩ := hT2
  rcases ho.2 with ⟨_, h0⟩ | ⟨g, cap, cur, rfl, hBg, hhp, hnc, hm, hs, ht⟩
  · cases h0
  · have hgt : g ≠ tb := by
      rintro rfl
      rw [hv] at hhp
      injection Option.some.inj hhp with _ h2
      exact absurd h2 (by decide)
    have q0 : w2.cell? ⟨tb, 0, none⟩ = some (.slice (some ⟨g, 0, none⟩) 1 cap) := Lib.cell_of_heap hv 0
    have hnc' : 1 ≤ cap := hnc
    have d0 : ∃ v, w2.cell? ⟨g, 0, none⟩ = some v := ⟨_, ho.cells (g := g) rfl 0 _ rfl⟩
    have d1 : ∃ v, w2.cell? ⟨g, 1, none⟩ = some v := ⟨_, ho.cells (g := g) rfl 1 _ rfl⟩
    obtain ⟨v0, d0⟩ := d0
    obtain ⟨v1, d1⟩ := d1
    have hde := del1_c g cap v0 v1 w2 hm hnc' d0 d1 (fun j => frozen_of_row w2 g j _ _ hhp)
    have HCL := Lib.hid (fun nq => del_close B tb blk g cap h room last cur w2 nq hBt hBg hgt hm hs hv hhp)
    have hq : Hid (∀ nq, (((w2.drewN nq).setCell ⟨g, 0, none⟩ (.int .i64 0)).setCell ⟨g, 1, none⟩ (.pointer none)).cell? ⟨tb, 0, none⟩ = some (.slice (some ⟨g, 0, none⟩) 1 cap) ∧ (((w2.drewN nq).setCell ⟨g, 0, none⟩ (.int .i64 0)).setCell ⟨g, 1, none⟩ (.pointer none)).frozen? ⟨tb, 0, none⟩ = false) := Lib.hid fun nq => by
      have hvt : (((w2.drewN nq).setCell ⟨g, 0, none⟩ (.int .i64 0)).setCell ⟨g, 1, none⟩ (.pointer none)).heap[tb]? = some (.cells #[.slice (some ⟨g, 0, none⟩) 1 cap, .int .i64 room, .int .i64 last] 127 (0, 0)) := by
        rw [heap_setCell_other _ _ _ _ (fun e => hgt e.symm), heap_setCell_other _ _ _ _ (fun e => hgt e.symm)]
        exact hv
      exact ⟨Lib.cell_of_heap hvt 0, frozen_of_row _ tb 0 _ _ hvt⟩
    clear hv ho hhp hs ht d0 d1 hT1
    go_wp2_with fail
    refine hde.mono ?_
    rintro e w3 ⟨rfl, nq, hw3⟩
    obtain ⟨q1, q2⟩ := hq.out nq
    have hc := HCL.out nq
    rw [← hw3] at q1 q2 hc
    have HC := Lib.hid hc
    clear hc hw3 HCL hq
    go_wp2_with fail
    go_ret2
    obtain ⟨x1, x2, x3, x4⟩ := HC.out
    exact ⟨rfl, x1, (HB2.out.mono (Nat.le_of_lt (Nat.lt_of_le_of_lt hBt HT.out.lt))).trans x2, (ty_below HB2.out _).trans x3, (ch_below HB2.out).trans x4⟩
end Go.Proofs.YtibgiohijknmbaaGreatDoor

/-
  (*Stack).Forget: of the only entry, and where there is none.
-/
namespace Go.Proofs.YtibgiohijknmbaaGreatDoor
open Go.RowKit
set_option linter.unusedVariables false
set_option linter.unusedSimpArgs false

def ForgetOk (B tb : Nat) (room last : Int) (w : World) (e : Ending) (w' : World) : Prop :=
  e = .returned (.bool true) ∧ TabAt w' B tb [] room last ∧ Below B w w' ∧ TyKept tabTs w w' ∧ ChKept w w'
set_option maxRecDepth 100000 in
theorem forget_c (B s tb sb mb blk : Nat) (most h room last : Int) (w : World) (hS : StackAt w B s tb sb mb most) (hT : TabAt w B tb [(h, blk)] room last) :
    Calls Tryz.prog 14 #[.pointer (some ⟨s, 0, none⟩), .int .i64 h] w (ForgetOk B tb room last w) := by
  have hd := tdel_c B tb blk h room last w hT
  have c0 : w.cell? ⟨s, 0, none⟩ = some (.pointer (some ⟨tb, 0, none⟩)) := Lib.cell_of_heap hS.2 0
  clear hS hT
  go_enter Tryz.func14, Tryz.ntmps14
  go_wp2_with fail
  refine hd.mono ?_
  rintro e w1 ⟨rfl, h1⟩
  have HH := Lib.hid h1
  clear h1
  go_wp2_with fail
  go_ret
  exact ⟨rfl, HH.out⟩
set_option maxRecDepth 100000 in
theorem del_none (B tb : Nat) (h room last : Int) (w : World) (hT : TabAt w B tb [] room last) :
    Calls Tryz.prog 35 #[.pointer (some ⟨tb, 0, none⟩), .int .i64 h] w fun e w' => e = .returned (.tuple #[.pointer none, .bool false]) ∧ Below w.heap.size w w' := by
  have hg := get_c B tb [] room last h w hT
  have e : getF [] h = none := rfl
  rw [e] at hg
  unfold optPtr at hg
  simp only [Option.map_none, Option.isSome_none] at hg
  clear hT e
  go_enter Tryz.func35, Tryz.ntmps35
  go_wp2_with fail
  refine hg.mono ?_
  rintro e w1 ⟨rfl, hb1⟩
  go_wp2_with fail
  go_ret2
  exact ⟨rfl, hb1⟩
set_option maxRecDepth 100000 in
theorem forget_none (B s tb sb mb : Nat) (most h room last : Int) (w : World) (hS : StackAt w B s tb sb mb most) (hT : TabAt w B tb [] room last) :
    Calls Tryz.prog 14 #[.pointer (some ⟨s, 0, none⟩), .int .i64 h] w fun e w' => e = .returned (.bool false) ∧ Below w.heap.size w w' := by
  have hd := del_none B tb h room last w hT
  have c0 : w.cell? ⟨s, 0, none⟩ = some (.pointer (some ⟨tb, 0, none⟩)) := Lib.cell_of_heap hS.2 0
  clear hS hT
  go_enter Tryz.func14, Tryz.ntmps14
  go_wp2_with fail
  refine hd.mono ?_
  rintro e w1 ⟨rfl, hb1⟩
  go_wp2_with fail
  go_ret
  exact ⟨rfl, hb1⟩
end Go.Proofs.YtibgiohijknmbaaGreatDoor
