/-
  stack.put, stack.Create.
-/
import Derived.Test.YtibgiohijknmbaaGreatDoorNew
import Derived.Deep.RegionHeld3
import Derived.IntWalk
namespace Go.Proofs.YtibgiohijknmbaaGreatDoor
open Go.RowKit
set_option linter.unusedVariables false
set_option linter.unusedSimpArgs false

theorem un_drew {w w1 : World} (h : Below w.drew.heap.size w.drew w1) : Below w.heap.size w w1 := ((Below.refl w.heap.size w).drew).trans (h.mono (by simp))
theorem ty_below {w w' : World} (h : Below w.heap.size w w') (ts : List TypeId) : TyKept ts w w' := fun k c T fz hk _ => h.block k (Array.getElem?_eq_some_iff.1 hk).1
theorem ch_below {w w' : World} (h : Below w.heap.size w w') : ChKept w w' := fun k cp buf cl s r tm hk => h.block k (Array.getElem?_eq_some_iff.1 hk).1
theorem TyKept.trans {ts : List TypeId} {a b c : World} (h : TyKept ts a b) (k : TyKept ts b c) : TyKept ts a c := fun i cc T fz hi hT => by
  have h1 := h i cc T fz hi hT
  exact (k i cc T fz (h1.trans hi) hT).trans h1
theorem ChKept.trans {a b c : World} (h : ChKept a b) (k : ChKept b c) : ChKept a c := fun i cp buf cl s r tm hi => by
  have h1 := h i cp buf cl s r tm hi
  exact (k i cp buf cl s r tm (h1.trans hi)).trans h1
abbrev tabTs : List TypeId := [127, 124]
/-- What stays where blocks of some types alone are turned. -/
theorem StackAt.ty {w w' : World} {B s tb sb mb : Nat} {most : Int} {ts : List TypeId} (h : StackAt w B s tb sb mb most) (k : TyKept ts w w') (hT : 83 ∉ ts) : StackAt w' B s tb sb mb most := ⟨h.1, (k _ _ _ _ h.2 hT).trans h.2⟩
theorem StoreNil.ty {w w' : World} {B sb : Nat} {room : Int} {ts : List TypeId} (h : StoreNil w B sb room) (k : TyKept ts w w') (hT : 135 ∉ ts) : StoreNil w' B sb room := ⟨h.1, (k _ _ _ _ h.2 hT).trans h.2⟩
theorem MailAt.ty {w w' : World} {B mb room : Nat} {us ps : List ByteArray} {ts : List TypeId} (h : MailAt w B mb room us ps) (k : TyKept ts w w') (c : ChKept w w') (hT : 141 ∉ ts) : MailAt w' B mb room us ps := by
  obtain ⟨h1, x, y, hxy, hx, hy, h2, ⟨s, r, h3⟩, s', r', h4⟩ := h
  exact ⟨h1, x, y, hxy, hx, hy, (k _ _ _ _ h2 hT).trans h2, ⟨s, r, (c _ _ _ _ _ _ _ h3).trans h3⟩, s', r', (c _ _ _ _ _ _ _ h4).trans h4⟩
theorem BlobAt.ty {w w' : World} {B blk : Nat} {l : List UInt8} {q : ByteArray} {ts : List TypeId} (h : BlobAt w B blk l q) (k : TyKept ts w w') (h1 : 121 ∉ ts) (h2 : 5 ∉ ts) : BlobAt w' B blk l q := by
  obtain ⟨hb, v, hv, ho, hn⟩ := h
  refine ⟨hb, v, (k _ _ _ _ hv h1).trans hv, ⟨ho.1, ?_⟩, hn⟩
  rcases ho.2 with h3 | ⟨g, cap, cur, e, hg, hh, r⟩
  · exact Or.inl h3
  · exact Or.inr ⟨g, cap, cur, e, hg, (k _ _ _ _ hh h2).trans hh, r⟩
theorem BlobsAt.ty {w w' : World} {B : Nat} {es : Ents} {bs : Nat → List UInt8} {ks : Nat → ByteArray} {ts : List TypeId} (h : BlobsAt w B es bs ks) (k : TyKept ts w w') (h1 : 121 ∉ ts) (h2 : 5 ∉ ts) : BlobsAt w' B es bs ks :=
  fun e he => ⟨(h e he).1.ty k h1 h2, (h e he).2⟩

def SPut (B tb : Nat) (es : Ents) (room last most : Int) (bs : Nat → List UInt8) (blk : Nat) (l : List UInt8) (w : World) (e : Ending) (w' : World) : Prop :=
  if most < sumTo es bs es + (l.length : Int) then e = .returned (.tuple #[.int .i64 0, .int .i64 7]) ∧ Below w.heap.size w w'
  else if (es.length : Int) = room then e = .returned (.tuple #[.int .i64 0, .int .i64 4]) ∧ Below w.heap.size w w'
  else e = .returned (.tuple #[.int .i64 (last + 1), .int .i64 0]) ∧ TabAt w' B tb (es ++ [(last + 1, blk)]) room (last + 1) ∧ Below B w w' ∧ TyKept tabTs w w' ∧ ChKept w w'

set_option maxRecDepth 100000 in
set_option maxHeartbeats 1000000 in
theorem sput_c (B s tb sb mb : Nat) (most : Int) (es : Ents) (room last : Int) (bs : Nat → List UInt8) (ks : Nat → ByteArray) (blk : Nat) (l : List UInt8) (q : ByteArray) (w : World)
    (hS : StackAt w B s tb sb mb most) (hT : TabAt w B tb es room last) (hB : BlobsAt w B es bs ks) (hb : BlobAt w B blk l q) (hl : l.length ≤ 1048576) (hr : room ≤ 64) (hfull : es.length < 64 ∨ (es.length : Int) = room) (h0 : 0 ≤ last) (h1 : last ≤ 1000000) :
    Calls Tryz.prog 27 #[.pointer (some ⟨s, 0, none⟩), .pointer (some ⟨blk, 0, none⟩)] w (SPut B tb es room last most bs blk l w) := by
  have hBs := hS.1
  have hbd := sumTo_bound es bs (fun e he => (hB e he).2) es (fun _ h => h)
  have hn := hT.2.1
  have hby := fun (W : World) (h : Below w.heap.size w W) => sbytes_c B s tb sb mb most es room last bs ks W (hS.later h) (hT.later h) (hB.later h)
  have c3 : w.cell? ⟨s, 3, none⟩ = some (.int .i64 most) := Lib.cell_of_heap hS.2 3
  have hslt := hS.lt
  have HS := Lib.hid hS
  have HT := Lib.hid hT
  have HB := Lib.hid hb
  have HF := Lib.hid hfull
  have hby : Hid (∀ (W : World), Below w.heap.size w W → Calls Tryz.prog 16 #[.pointer (some ⟨s, 0, none⟩)] W fun e w' => e = .returned (.int .i64 (sumTo es bs es)) ∧ Below W.heap.size W w') := hby
  generalize hsum : sumTo es bs es = n at *
  have HSUM := Lib.hid hsum
  have hwr : IntKind.i64.wrap (n + (l.length : Int)) = n + (l.length : Int) := IntWalk.i64_in _ ⟨by omega, by omega⟩
  clear hS hT hB hb hfull hsum
  by_cases hq : most < n + (l.length : Int)
  · have HQ := Lib.hid hq
    have hq' : decide (most < n + (l.length : Int)) = true := by simpa using hq
    clear hq
    go_enter Tryz.func27, Tryz.ntmps27
    go_wp2_with fail
    go_region_held3 (fun W => W.cell? ⟨s, 3, none⟩ = some (.int .i64 most)) (first | go_keep | (exact (hb1.cell (p := ⟨s, 3, none⟩) hslt).trans c3))
      (first | (go_at_call 16; refine (hby.out _ (Below.refl _ w).drew).mono ?_; rintro e w1 ⟨rfl, hb1⟩; replace hb1 := un_drew hb1) | (go_at_call 39; refine (len_c B blk l q _ (HB.out.later hb1)).mono ?_; rintro e w2 ⟨rfl, rfl⟩))
    go_wp2_with fail
    go_ret2
    unfold SPut
    rw [HSUM.out, if_pos HQ.out]
    exact ⟨rfl, hb1⟩
  · have HQ := Lib.hid hq
    have hq' : decide (most < n + (l.length : Int)) = false := by simpa using hq
    clear hq
    go_enter Tryz.func27, Tryz.ntmps27
    go_wp2_with fail
    go_region_held3 (fun W => W.cell? ⟨s, 3, none⟩ = some (.int .i64 most)) (first | go_keep | (exact (hb1.cell (p := ⟨s, 3, none⟩) hslt).trans c3))
      (first | (go_at_call 16; refine (hby.out _ (Below.refl _ w).drew).mono ?_; rintro e w1 ⟨rfl, hb1⟩; replace hb1 := un_drew hb1) | (go_at_call 39; refine (len_c B blk l q _ (HB.out.later hb1)).mono ?_; rintro e w2 ⟨rfl, rfl⟩))
    have c0 : w1.cell? ⟨s, 0, none⟩ = some (.pointer (some ⟨tb, 0, none⟩)) := Lib.cell_of_heap (HS.out.later hb1).2 0
    go_wp2_with fail
    have hB1 : B ≤ w.heap.size := Nat.le_trans hBs (Nat.le_of_lt HS.out.lt)
    have hput := put_c B tb es room last blk w1 (HT.out.later hb1) hr HF.out h0 h1
    clear hby
    by_cases hfl : (es.length : Int) = room
    · have HFL := Lib.hid hfl
      clear hfl
      refine hput.mono ?_
      intro e w3 hp
      unfold PutOk at hp
      rw [if_pos HFL.out] at hp
      obtain ⟨rfl, hb3⟩ := hp
      clear hput
      go_wp2
      go_ret2
      unfold SPut
      rw [HSUM.out, if_neg (by have hh := HQ.out; omega), if_pos HFL.out]
      exact ⟨rfl, hb1.trans (hb3.mono hb1.size)⟩
    · have HFL := Lib.hid hfl
      clear hfl
      refine hput.mono ?_
      intro e w3 hp
      unfold PutOk at hp
      rw [if_neg HFL.out] at hp
      obtain ⟨rfl, hp⟩ := hp
      have HP := Lib.hid hp
      clear hput hp
      go_wp2
      go_ret2
      unfold SPut
      rw [HSUM.out, if_neg (by have hh := HQ.out; omega), if_neg HFL.out]
      obtain ⟨hp1, hp2, hp3, hp4⟩ := HP.out
      exact ⟨rfl, hp1, (hb1.mono hB1).trans hp2, (ty_below hb1 _).trans hp3, (ch_below hb1).trans hp4⟩

/-- What Create answers, and what stands in memory then. -/
def SCre (B tb : Nat) (es : Ents) (room last most : Int) (bs : Nat → List UInt8) (l : List UInt8) (k : ByteArray) (w : World) (e : Ending) (w' : World) : Prop :=
  ∃ blk, w.heap.size ≤ blk ∧ BlobAt w' w.heap.size blk l ⟨(kindF k.data.toList).toArray⟩ ∧
    if most < sumTo es bs es + (l.length : Int) then e = .returned (.tuple #[.int .i64 0, .int .i64 7]) ∧ Below w.heap.size w w'
    else if (es.length : Int) = room then e = .returned (.tuple #[.int .i64 0, .int .i64 4]) ∧ Below w.heap.size w w'
    else e = .returned (.tuple #[.int .i64 (last + 1), .int .i64 0]) ∧ TabAt w' B tb (es ++ [(last + 1, blk)]) room (last + 1) ∧ Below B w w' ∧ TyKept tabTs w w' ∧ ChKept w w'

set_option maxRecDepth 100000 in
set_option maxHeartbeats 1000000 in
theorem create_c (B s tb sb mb : Nat) (most : Int) (es : Ents) (room last : Int) (bs : Nat → List UInt8) (ks : Nat → ByteArray) (l : List UInt8) (b off cap : Nat) (q : ByteArray) (w : World)
    (hS : StackAt w B s tb sb mb most) (hT : TabAt w B tb es room last) (hB : BlobsAt w B es bs ks) (hby : BytesAt w b off l) (hbw : b < w.heap.size) (hl : l.length ≤ 1048576) (hq : q.size ≤ 1073741824) (hr : room ≤ 64) (hfull : es.length < 64 ∨ (es.length : Int) = room) (h0 : 0 ≤ last) (h1 : last ≤ 1000000) :
    Calls Tryz.prog 9 #[.pointer (some ⟨s, 0, none⟩), .slice (some ⟨b, off, none⟩) l.length cap, .string q] w (SCre B tb es room last most bs l q w) := by
  have hBs := hS.1
  have hB1 : B ≤ w.heap.size := Nat.le_trans hBs (Nat.le_of_lt hS.lt)
  have hnew := new_c l b off cap q w (by omega) hby hbw hq
  have HS := Lib.hid hS
  have HT := Lib.hid hT
  have HB := Lib.hid hB
  have HF := Lib.hid hfull
  clear hS hT hB hfull hby
  go_enter Tryz.func9, Tryz.ntmps9
  go_wp2_with fail
  refine hnew.mono ?_
  rintro e w1 ⟨blk, rfl, hblk, hb1⟩
  have hp := sput_c B s tb sb mb most es room last bs ks blk l _ w1 (HS.out.later hb1) (HT.out.later hb1) (HB.out.later hb1) (hblk.base hB1) hl hr HF.out h0 h1
  have HBLK := Lib.hid hblk
  clear hnew hblk
  go_wp2_with fail
  refine hp.mono ?_
  intro e w2 h2
  have HW : Hid (SCre B tb es room last most bs l q w e w2) := by
    refine ⟨blk, HBLK.out.1, ?_⟩
    unfold SPut at h2
    split at h2
    · rename_i c1
      rw [if_pos c1]
      exact ⟨HBLK.out.later h2.2, h2.1, hb1.trans (h2.2.mono hb1.size)⟩
    · rename_i c1
      rw [if_neg c1]
      split at h2
      · rename_i c2
        rw [if_pos c2]
        exact ⟨HBLK.out.later h2.2, h2.1, hb1.trans (h2.2.mono hb1.size)⟩
      · rename_i c2
        rw [if_neg c2]
        obtain ⟨e1, e2, e3, e4, e5⟩ := h2
        exact ⟨HBLK.out.ty e4 (by decide) (by decide), e1, e2, (hb1.mono hB1).trans e3, (ty_below hb1 _).trans e4, (ch_below hb1).trans e5⟩
  obtain ⟨z1, z2, he⟩ : ∃ z1 z2 : Int, e = .returned (.tuple #[.int .i64 z1, .int .i64 z2]) := by
    unfold SPut at h2
    split at h2
    · exact ⟨_, _, h2.1⟩
    · split at h2
      · exact ⟨_, _, h2.1⟩
      · exact ⟨_, _, h2.1⟩
  subst he
  clear h2 hp
  go_wp2
  go_ret2
  exact HW.out
end Go.Proofs.YtibgiohijknmbaaGreatDoor
