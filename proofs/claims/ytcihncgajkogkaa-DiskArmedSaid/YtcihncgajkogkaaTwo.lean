/- Two disks side by side. -/
import Derived.Test.YtcihncgajkogkaaStable
import Derived.Test.YtcihncgajkogkaaClass
namespace Go.Proofs.Ytcihncgajkogkaa
open Go.RowKit

/-- Two disks in memory made since w0, apart from each other. -/
def Live2 (w0 w : World) (Ba : Nat) (sa : DS) (Bb : Nat) (sb : DS) : Prop :=
  ∃ fa fb : Foot, fa.B = Ba ∧ fb.B = Bb ∧ DiskAt w w0.heap.size fa sa ∧ DiskAt w w0.heap.size fb sb ∧ Upd [] w0 w ∧ ∀ k ∈ fa.list, k ∉ fb.list

theorem Live2.swap {w0 w : World} {Ba Bb : Nat} {sa sb : DS} (h : Live2 w0 w Ba sa Bb sb) : Live2 w0 w Bb sb Ba sa := by
  obtain ⟨fa, fb, ha, hb, da, db, hu, hd⟩ := h
  exact ⟨fb, fa, hb, ha, db, da, hu, fun k hk hm => hd k hm hk⟩
theorem Live2.upd {w0 w : World} {Ba Bb : Nat} {sa sb : DS} (h : Live2 w0 w Ba sa Bb sb) : Upd [] w0 w := let ⟨_, _, _, _, _, _, hu, _⟩ := h; hu
theorem Live2.keep {w0 w w' : World} {Ba Bb : Nat} {sa sb : DS} (h : Live2 w0 w Ba sa Bb sb) (hu : Upd [] w w') : Live2 w0 w' Ba sa Bb sb := by
  obtain ⟨fa, fb, ha, hb, da, db, h0, hd⟩ := h
  exact ⟨fa, fb, ha, hb, da.upd hu (by simp), db.upd hu (by simp), h0.trans hu, hd⟩
theorem Live2.wf {w0 w : World} {Ba Bb : Nat} {sa sb : DS} (h : Live2 w0 w Ba sa Bb sb) : sa.Wf := let ⟨_, _, _, _, hd, _⟩ := h; hd.wf
theorem Live2.left {w0 w : World} {Ba Bb : Nat} {sa sb : DS} (h : Live2 w0 w Ba sa Bb sb) : Live w0 w Ba sa := let ⟨fa, _, ha, _, da, _, hu, _⟩ := h; ⟨fa, ha, da, hu⟩

theorem Live2.turn {w0 w w' : World} {fa fa' fb : Foot} {sa sa' sb : DS} (da : DiskAt w w0.heap.size fa sa) (db : DiskAt w w0.heap.size fb sb) (h0 : Upd [] w0 w) (hd : ∀ k ∈ fa.list, k ∉ fb.list)
    (da' : DiskAt w' w0.heap.size fa' sa') (ht : Turn fa fa' w w') : Live2 w0 w' fa.B sa' fb.B sb :=
  ⟨fa', fb, ht.B, rfl, da', db.upd ht.upd (fun k hk hm => hd k hm hk), h0.then ht.upd (fun k hk => .inr (da.ge k hk)), fun k hk hm => by
    rcases ht.sub k hk with h1 | h1
    · exact hd k h1 hm
    · have := db.lt k hm; omega⟩

theorem live2_new {w0 w : World} {Ba : Nat} {sa : DS} (h : Live w0 w Ba sa) (k : Nat) (h1 : 1 ≤ k) (h2 : k ≤ 4000) :
    Calls Try.prog 9 #[.int .i64 k] w fun e w' => ∃ B, e = .returned (.pointer (some ⟨B, 0, none⟩)) ∧ Live2 w0 w' Ba sa B (DS.new k) := by
  obtain ⟨fa, ha, da, h0⟩ := h
  refine (new_any k w w0.heap.size h0.size h1 h2).mono fun e w' ⟨f, he, x, y, z⟩ => ⟨f.B, he, fa, f, ha, rfl, da.upd y (by simp), x, h0.trans y, fun k hk hm => ?_⟩
  have := da.lt k hk
  have := z k hm
  omega

section
variable {w0 w : World} {Ba Bb : Nat} {sa sb : DS} (h : Live2 w0 w Ba sa Bb sb)
include h
theorem live2_fail (hq : sa.q.length ≤ 1000000) (wr b : Int) :
    Calls Try.prog 16 #[.pointer (some ⟨Ba, 0, none⟩), .int .i64 wr, .int .i64 b] w fun e w' => e = .returned (.tuple #[]) ∧ Live2 w0 w' Ba (sa.fail wr b) Bb sb := by
  obtain ⟨fa, fb, rfl, rfl, da, db, h0, hd⟩ := h
  exact (fail_any da hq wr b).mono fun e w' ⟨he, f', x, y⟩ => ⟨he, Live2.turn da db h0 hd x y⟩
theorem live2_start : Calls Try.prog 11 #[.pointer (some ⟨Ba, 0, none⟩)] w fun e w' => e = .returned (.tuple #[]) ∧ Live2 w0 w' Ba sa.start Bb sb := by
  obtain ⟨fa, fb, rfl, rfl, da, db, h0, hd⟩ := h
  exact (start_any da).mono fun e w' ⟨he, f', x, y⟩ => ⟨he, Live2.turn da db h0 hd x y⟩
theorem live2_arm (a wr b : Int) (ha : a ≤ 9223372036854775807) :
    Calls Try.prog 19 #[.pointer (some ⟨Ba, 0, none⟩), .int .i64 a, .int .i64 wr, .int .i64 b] w fun e w' => e = .returned (.tuple #[]) ∧ Live2 w0 w' Ba (sa.arm a wr b) Bb sb := by
  obtain ⟨fa, fb, rfl, rfl, da, db, h0, hd⟩ := h
  exact (arm_any da a wr b h0.size ha).mono fun e w' ⟨he, f', x, y⟩ => ⟨he, Live2.turn da db h0 hd x y⟩
theorem live2_sync (hq : sa.q.length ≤ 1000000) :
    Calls Try.prog 12 #[.pointer (some ⟨Ba, 0, none⟩)] w fun e w' => e = .returned (.int .i64 sa.sync.2) ∧ Live2 w0 w' Ba sa.sync.1 Bb sb := by
  obtain ⟨fa, fb, rfl, rfl, da, db, h0, hd⟩ := h
  exact (sync_any da hq).mono fun e w' ⟨he, f', x, y⟩ => ⟨he, Live2.turn da db h0 hd x y⟩
theorem live2_write (hq : sa.q.length < 1000000) (sec : Int) (t : ByteArray) (ht : t.size ≤ maxLen) :
    Calls Try.prog 14 #[.pointer (some ⟨Ba, 0, none⟩), .int .i64 sec, .string t] w fun e w' => e = .returned (.int .i64 (sa.write sec t).2) ∧ Live2 w0 w' Ba (sa.write sec t).1 Bb sb := by
  obtain ⟨fa, fb, rfl, rfl, da, db, h0, hd⟩ := h
  exact (write_any da h0.size hq sec t ht).mono fun e w' ⟨he, f', x, y⟩ => ⟨he, Live2.turn da db h0 hd x y⟩
theorem live2_do (hq : sa.q.length < 1000000) (a : ActR) (ht : a.text.size ≤ 100) (ha : a.after ≤ 9223372036854775807) :
    Calls Try.prog 10 #[.pointer (some ⟨Ba, 0, none⟩), a.val] w fun e w' => (∃ t n, e = .returned (.tuple #[.string t, .int .i64 n])) ∧ Live2 w0 w' Ba (sa.act a) Bb sb := by
  obtain ⟨fa, fb, rfl, rfl, da, db, h0, hd⟩ := h
  exact (do_any da h0.size hq a ht ha).mono fun e w' ⟨he, f', x, y⟩ => ⟨he, Live2.turn da db h0 hd x y⟩
end

/-! ### The armed disk beside the other -/
/-- s, armed with 'left' to go (not at all where af is negative). -/
def armS (s : DS) (af lf nw nb : Int) : DS := { s with armed := if af < 0 then none else some (lf, nw, nb) }

def decL (lf : Int) : Int := if 0 < lf then lf - 1 else lf

/-- How 'left' stands to 'after'. -/
structure LeftOk (af lf : Int) : Prop where
  neg : af < 0 → lf = af
  pos : 0 ≤ af → 0 ≤ lf ∧ lf ≤ af

theorem LeftOk.dec {af lf : Int} (h : LeftOk af lf) : LeftOk af (decL lf) := by
  unfold decL
  refine ⟨fun hn => ?_, fun hp => ?_⟩
  · have := h.neg hn; split <;> omega
  · have := h.pos hp; split <;> omega

theorem armS_count (s : DS) (ho : s.off = false) (ha : s.armed = none) (af lf nw nb : Int) (h : LeftOk af lf) :
    (armS s af lf nw nb).count = if lf = 0 then (s.fail nw nb, 21) else (armS s af (decL lf) nw nb, 0) := by
  unfold DS.count armS
  by_cases hn : af < 0
  · have := h.neg hn
    simp only [if_pos hn]
    rw [if_neg (by omega)]
  · have hp := h.pos (by omega)
    simp only [if_neg hn]
    by_cases h0 : lf = 0
    · subst h0
      rw [if_neg (by decide), if_pos rfl]
      unfold DS.fail
      rw [ho]
      simp only [Bool.false_eq_true, if_false]
      rfl
    · rw [if_pos (by omega), if_neg h0]
      unfold decL
      rw [if_pos (by omega)]

theorem armS_sync (s : DS) (ho : s.off = false) (ha : s.armed = none) (af lf nw nb : Int) (h : LeftOk af lf) :
    (armS s af lf nw nb).sync = if lf = 0 then (s.fail nw nb, 21) else (armS { s with st := settleL s.st s.q, q := [] } af (decL lf) nw nb, 0) := by
  unfold DS.sync
  rw [if_neg (by show ¬ s.off = true; rw [ho]; decide), armS_count s ho ha af lf nw nb h]
  by_cases h0 : lf = 0
  · rw [if_pos h0, if_pos h0, if_pos (show (21:Int) ≠ 0 by decide)]
  · rw [if_neg h0, if_neg h0, if_neg (by simp)]
    rfl
theorem plain_sync (s : DS) (ho : s.off = false) (ha : s.armed = none) : s.sync = ({ s with st := settleL s.st s.q, q := [] }, 0) := by
  unfold DS.sync
  have hc : s.count = (s, 0) := by unfold DS.count; rw [ha]
  rw [if_neg (by rw [ho]; decide), hc, if_neg (by simp)]

theorem armS_write (s : DS) (ho : s.off = false) (ha : s.armed = none) (af lf nw nb : Int) (h : LeftOk af lf) (j : Nat) (hj : j < s.n) (t : ByteArray) (ht : t.size = 32) :
    (armS s af lf nw nb).write j t = if lf = 0 then ((s.push (j, t)).fail nw nb, 21) else (armS (s.push (j, t)) af (decL lf) nw nb, 0) := by
  have h1 : (armS s af lf nw nb).atE j = 0 := by
    unfold DS.atE
    rw [if_neg (by show ¬ s.off = true; rw [ho]; decide), if_neg (by show ¬ ((j : Int) < 0 ∨ (s.n : Int) ≤ j); omega)]
  unfold DS.write
  rw [if_neg (by rw [h1]; decide), if_neg (by simp [ht])]
  have e : ((j : Int)).toNat = j := by omega
  rw [e]
  exact armS_count (s.push (j, t)) ho ha af lf nw nb h
theorem armS_bad (s : DS) (ho : s.off = false) (af lf nw nb : Int) (sec : Int) (t : ByteArray) (h : ¬ (0 ≤ sec ∧ sec < s.n ∧ t.size = 32)) : (armS s af lf nw nb).write sec t = (armS s af lf nw nb, 1) :=
  write_bad (armS s af lf nw nb) ho sec t h

theorem armS_arm (s : DS) (ho : s.off = false) (af nw nb : Int) : s.arm af nw nb = armS s af af nw nb := by
  unfold DS.arm armS
  rw [if_neg (by rw [ho]; decide)]
theorem armS_start (s : DS) (ho : s.off = false) (ha : s.armed = none) (af lf nw nb : Int) : (armS s af lf nw nb).start = s.start := rfl
theorem armS_n (s : DS) (af lf nw nb : Int) : (armS s af lf nw nb).n = s.n := rfl
theorem armS_q (s : DS) (af lf nw nb : Int) : (armS s af lf nw nb).q = s.q := rfl

end Go.Proofs.Ytcihncgajkogkaa
