/- New, do, contents. -/
import Derived.Test.YtcihncgajkogkaaRead
import Derived.Deep.OwnRows
namespace Go.Proofs.Ytcihncgajkogkaa
open Go.RowKit

def DS.new (n : Nat) : DS := { n := n, st := List.replicate (n * 32) 0, q := [], off := false, armed := none }

theorem info5b : (Try.prog.info? 5).map (fun i => (i.zero, i.size, i.bytes)) = some (some (.int .u8 0), 1, 1) := by kernel_rfl

theorem madeCells_zero (n : Nat) : madeCells #[.int .u8 0] n = ((List.replicate n (0 : UInt8)).map byteCell).toArray := by
  apply Array.ext'
  apply List.ext_getElem?
  intro i
  by_cases hi : i < n
  · simp [madeCells, byteCell, hi, Nat.mod_one]
  · simp [madeCells, byteCell, hi]

set_option maxHeartbeats 400000 in
theorem new_walk (k : Nat) (w : World) (h1 : 1 ≤ k) (h2 : k ≤ 4000) :
    Calls Try.prog 9 #[.int .i64 k] w fun e w' => e = .returned (.pointer (some ⟨w.heap.size + 1, 0, none⟩)) ∧
      w' = (w.alloc (.cells ((List.replicate (k * 32) (0 : UInt8)).map byteCell).toArray 5)).alloc (diskObj k w.heap.size (.slice none 0 0) false (.pointer none)) := by
  have hmk := run_make_row' (P := Try.prog) 49 5 (.int .u8 0) 1 Try.underlying49 info5b rfl .i64 .i64 (k * 32) (by omega) (by omega)
  rw [madeCells_zero] at hmk
  have e1 : ((k * 32 : Nat) : Int) = (k : Int) * 32 := by omega
  rw [e1] at hmk
  go_enter Try.func9, Try.ntmps9
  go_wp2
  go_ret
  exact ⟨rfl, by simp [diskObj]⟩

theorem new_any (k : Nat) (w : World) (base : Nat) (hb : base ≤ w.heap.size) (h1 : 1 ≤ k) (h2 : k ≤ 4000) :
    Calls Try.prog 9 #[.int .i64 k] w fun e w' => ∃ f : Foot, e = .returned (.pointer (some ⟨f.B, 0, none⟩)) ∧ DiskAt w' base f (DS.new k) ∧ Upd [] w w' ∧ ∀ k ∈ f.list, w.heap.size ≤ k := by
  refine (new_walk k w h1 h2).mono fun e w' hh => ⟨⟨w.heap.size + 1, w.heap.size, none, none⟩, hh.1, ?_, ?_, ?_⟩
  · obtain ⟨-, rfl⟩ := hh
    have hz : (w.alloc (.cells ((List.replicate (k * 32) (0 : UInt8)).map byteCell).toArray 5)).heap.size = w.heap.size + 1 := by simp
    refine ⟨⟨h1, h2, by simp [DS.new], by simp [DS.new], by simp [DS.new]⟩, by simp [Foot.list], ?_, .slice none 0 0, .pointer none, ?_, ?_, World.ownsRow_nil _ _ _ _, rfl, fun _ => rfl, rfl, rfl⟩
    · intro x hx
      simp only [Foot.list, Option.toList_none, List.append_nil, List.mem_cons, List.not_mem_nil, or_false] at hx
      omega
    · have := heap_alloc_new (w.alloc (.cells ((List.replicate (k * 32) (0 : UInt8)).map byteCell).toArray 5)) (diskObj k w.heap.size (.slice none 0 0) false (.pointer none))
      rwa [hz] at this
    · rw [Below.heap_alloc _ _ _ (by rw [hz]; simp only; omega)]
      exact heap_alloc_new _ _
  · rw [hh.2]; exact ((Upd.refl _ _).alloc _).alloc _
  · intro x hx
    simp only [Foot.list, Option.toList_none, List.append_nil, List.mem_cons, List.not_mem_nil, or_false] at hx
    omega

set_option maxHeartbeats 400000 in
theorem new_low (k : Int) (w : World) (h1 : k < 1) :
    Calls Try.prog 9 #[.int .i64 k] w fun e w' => e = .returned (.pointer none) ∧ w = w' := by
  go_enter Try.func9, Try.ntmps9
  go_wp2
  go_ret
  exact ⟨rfl, rfl⟩

set_option maxHeartbeats 400000 in
theorem new_high (k : Int) (w : World) (h1 : 4000 < k) :
    Calls Try.prog 9 #[.int .i64 k] w fun e w' => e = .returned (.pointer none) ∧ w = w' := by
  go_enter Try.func9, Try.ntmps9
  go_wp2
  go_ret
  exact ⟨rfl, rfl⟩

/-! ### do -/
def DS.act (s : DS) (a : ActR) : DS :=
  if a.kind = 0 then (s.write a.sector a.txt).1
  else if a.kind = 1 then s
  else if a.kind = 2 then s.sync.1
  else if a.kind = 3 then s.fail a.sector a.bytes
  else if a.kind = 4 then s.start
  else if a.kind = 5 then s.arm a.after a.sector a.bytes
  else s

theorem size_txt (a : ActR) (h : a.text.size ≤ 100) : a.txt.size ≤ 100 := by
  unfold ActR.txt txtOf
  split
  · exact h
  · rw [ByteArray.size_extract]; omega

def actObj (a : ActR) : Obj := .cells #[.int .i64 a.kind, .int .i64 a.sector, .int .i64 a.bytes, .string a.text, .bool a.odd, .int .i64 a.after] 32

def DoPost (base : Nat) (f : Foot) (s : DS) (w : World) (e : Ending) (w' : World) : Prop := (∃ t n, e = .returned (.tuple #[.string t, .int .i64 n])) ∧ ∃ f', DiskAt w' base f' s ∧ Turn f f' w w'

theorem act_new (w : World) (a : ActR) : ActAt ((w.alloc (actObj a)).drew) w.heap.size 0 a :=
  ⟨World.cell?_alloc_new _ _ _ _, World.cell?_alloc_new _ _ _ _, World.cell?_alloc_new _ _ _ _, World.cell?_alloc_new _ _ _ _, World.cell?_alloc_new _ _ _ _, World.cell?_alloc_new _ _ _ _⟩

def BPost (base : Nat) (f : Foot) (s : DS) (w w' : World) : Prop := ∃ f', DiskAt w' base f' s ∧ Turn f f' w w'
theorem BPost.pre {base : Nat} {f : Foot} {s : DS} {w w1 w' : World} (h : ∃ f', DiskAt w' base f' s ∧ Turn f f' w1 w') (hu : Upd [] w w1) : BPost base f s w w' := by
  obtain ⟨f', x, y⟩ := h
  exact ⟨f', x, (Turn.same hu).trans y⟩

set_option maxHeartbeats 1000000 in
theorem do_write {w : World} {base : Nat} {f : Foot} {s : DS} (h : DiskAt w base f s) (hbase : base ≤ w.heap.size) (hql : s.q.length < 1000000) (a : ActR) (ht : a.text.size ≤ 100) (hk : a.kind = 0) :
    Calls Try.prog 10 #[.pointer (some ⟨f.B, 0, none⟩), a.val] w (DoPost base f (s.write a.sector a.txt).1 w) := by
  obtain ⟨kind, sector, bytes, text, odd, after⟩ := a
  simp only at hk ht
  subst hk
  unfold ActR.val
  simp only
  have HD := Lib.hid h
  have hsz := size_txt ⟨0, sector, bytes, text, odd, after⟩ ht
  clear h
  go_enter Try.func10, Try.ntmps10
  go_wp2_with fail
  go_region_with (first | (go_at_call 15; refine (text_any ⟨0, sector, bytes, text, odd, after⟩ _ ht).mono ?_; rintro e w2 ⟨rfl, hu2⟩; have hu3 := (((Upd.refl [] w).alloc _).drew).trans hu2; have hc := hu3.size; have e1 := hu2.cell (act_new w ⟨0, sector, bytes, text, odd, after⟩).c1 (by simp)) | (go_at_call 14; refine (write_any (HD.out.upd hu3 (by simp)) (Nat.le_trans hbase hc) hql sector _ (Nat.le_trans hsz (by decide))).mono ?_; rintro e w4 ⟨rfl, hd⟩; have HF := Lib.hid (BPost.pre hd hu3); clear hd))
  all_goals
    go_wp2
    go_ret2
    exact ⟨⟨_, _, rfl⟩, HF.out⟩

set_option maxHeartbeats 1000000 in
theorem do_read {w : World} {base : Nat} {f : Foot} {s : DS} (h : DiskAt w base f s) (hql : s.q.length ≤ 1000000) (a : ActR) (hk : a.kind = 1) :
    Calls Try.prog 10 #[.pointer (some ⟨f.B, 0, none⟩), a.val] w (DoPost base f s w) := by
  obtain ⟨kind, sector, bytes, text, odd, after⟩ := a
  simp only at hk
  subst hk
  unfold ActR.val
  simp only
  have HD := Lib.hid h
  clear h
  go_enter Try.func10, Try.ntmps10
  go_wp2_with fail
  have hu3 := (Upd.refl [] w).alloc (actObj ⟨1, sector, bytes, text, odd, after⟩)
  have hc := hu3.size
  have HC := Lib.hid (read_any (HD.out.upd hu3 (by simp)) hql sector)
  refine HC.out.mono ?_
  rintro e w4 ⟨rfl, hd⟩
  have HF : Hid (BPost base f s w w4) := ⟨f, HD.out.upd (hu3.trans hd) (by simp), .same (hu3.trans hd)⟩
  clear hd HC hu3 hc
  go_wp2
  go_ret2
  exact ⟨⟨_, _, rfl⟩, HF.out⟩

set_option maxHeartbeats 1000000 in
theorem do_sync {w : World} {base : Nat} {f : Foot} {s : DS} (h : DiskAt w base f s) (hql : s.q.length ≤ 1000000) (a : ActR) (hk : a.kind = 2) :
    Calls Try.prog 10 #[.pointer (some ⟨f.B, 0, none⟩), a.val] w (DoPost base f s.sync.1 w) := by
  obtain ⟨kind, sector, bytes, text, odd, after⟩ := a
  simp only at hk
  subst hk
  unfold ActR.val
  simp only
  have HD := Lib.hid h
  clear h
  go_enter Try.func10, Try.ntmps10
  go_wp2_with fail
  have hu3 := (Upd.refl [] w).alloc (actObj ⟨2, sector, bytes, text, odd, after⟩)
  have hc := hu3.size
  have HC := Lib.hid (sync_any (HD.out.upd hu3 (by simp)) hql)
  refine HC.out.mono ?_
  rintro e w4 ⟨rfl, hd⟩
  have HF := Lib.hid (BPost.pre hd hu3)
  clear hd HC hu3 hc
  go_wp2
  go_ret2
  exact ⟨⟨_, _, rfl⟩, HF.out⟩

set_option maxHeartbeats 1000000 in
theorem do_fail {w : World} {base : Nat} {f : Foot} {s : DS} (h : DiskAt w base f s) (hql : s.q.length ≤ 1000000) (a : ActR) (hk : a.kind = 3) :
    Calls Try.prog 10 #[.pointer (some ⟨f.B, 0, none⟩), a.val] w (DoPost base f (s.fail a.sector a.bytes) w) := by
  obtain ⟨kind, sector, bytes, text, odd, after⟩ := a
  simp only at hk
  subst hk
  unfold ActR.val
  simp only
  have HD := Lib.hid h
  clear h
  go_enter Try.func10, Try.ntmps10
  go_wp2_with fail
  have hu3 := (Upd.refl [] w).alloc (actObj ⟨3, sector, bytes, text, odd, after⟩)
  have hc := hu3.size
  have HC := Lib.hid (fail_any (HD.out.upd hu3 (by simp)) hql sector bytes)
  refine HC.out.mono ?_
  rintro e w4 ⟨rfl, hd⟩
  have HF := Lib.hid (BPost.pre hd hu3)
  clear hd HC hu3 hc
  go_wp2
  go_ret2
  exact ⟨⟨_, _, rfl⟩, HF.out⟩

set_option maxHeartbeats 1000000 in
theorem do_start {w : World} {base : Nat} {f : Foot} {s : DS} (h : DiskAt w base f s) (a : ActR) (hk : a.kind = 4) :
    Calls Try.prog 10 #[.pointer (some ⟨f.B, 0, none⟩), a.val] w (DoPost base f s.start w) := by
  obtain ⟨kind, sector, bytes, text, odd, after⟩ := a
  simp only at hk
  subst hk
  unfold ActR.val
  simp only
  have HD := Lib.hid h
  clear h
  go_enter Try.func10, Try.ntmps10
  go_wp2_with fail
  have hu3 := (Upd.refl [] w).alloc (actObj ⟨4, sector, bytes, text, odd, after⟩)
  have hc := hu3.size
  have HC := Lib.hid (start_any (HD.out.upd hu3 (by simp)))
  refine HC.out.mono ?_
  rintro e w4 ⟨rfl, hd⟩
  have HF := Lib.hid (BPost.pre hd hu3)
  clear hd HC hu3 hc
  go_wp2
  go_ret2
  exact ⟨⟨_, _, rfl⟩, HF.out⟩

set_option maxHeartbeats 1000000 in
theorem do_arm {w : World} {base : Nat} {f : Foot} {s : DS} (h : DiskAt w base f s) (hbase : base ≤ w.heap.size) (a : ActR) (haf : a.after ≤ 9223372036854775807) (hk : a.kind = 5) :
    Calls Try.prog 10 #[.pointer (some ⟨f.B, 0, none⟩), a.val] w (DoPost base f (s.arm a.after a.sector a.bytes) w) := by
  obtain ⟨kind, sector, bytes, text, odd, after⟩ := a
  simp only at hk haf
  subst hk
  unfold ActR.val
  simp only
  have HD := Lib.hid h
  clear h
  go_enter Try.func10, Try.ntmps10
  go_wp2_with fail
  have hu3 := (Upd.refl [] w).alloc (actObj ⟨5, sector, bytes, text, odd, after⟩)
  have hc := hu3.size
  have HC := Lib.hid (arm_any (HD.out.upd hu3 (by simp)) after sector bytes (Nat.le_trans hbase hc) haf)
  refine HC.out.mono ?_
  rintro e w4 ⟨rfl, hd⟩
  have HF := Lib.hid (BPost.pre hd hu3)
  clear hd HC hu3 hc
  go_wp2
  go_ret2
  exact ⟨⟨_, _, rfl⟩, HF.out⟩

set_option maxHeartbeats 1000000 in
theorem do_none {w : World} {base : Nat} {f : Foot} {s : DS} (h : DiskAt w base f s) (a : ActR) (hk : a.kind < 0 ∨ 5 < a.kind) :
    Calls Try.prog 10 #[.pointer (some ⟨f.B, 0, none⟩), a.val] w (DoPost base f s w) := by
  obtain ⟨kind, sector, bytes, text, odd, after⟩ := a
  simp only at hk
  unfold ActR.val
  simp only
  have HD := Lib.hid h
  have b0 : (kind == 0) = false := by rw [beq_eq_false_iff_ne]; omega
  have b1 : (kind == 1) = false := by rw [beq_eq_false_iff_ne]; omega
  have b2 : (kind == 2) = false := by rw [beq_eq_false_iff_ne]; omega
  have b3 : (kind == 3) = false := by rw [beq_eq_false_iff_ne]; omega
  have b4 : (kind == 4) = false := by rw [beq_eq_false_iff_ne]; omega
  have b5 : (kind == 5) = false := by rw [beq_eq_false_iff_ne]; omega
  clear h hk
  go_enter Try.func10, Try.ntmps10
  go_wp2
  go_ret2
  exact ⟨⟨_, _, rfl⟩, f, HD.out.upd ((Upd.refl [] w).alloc _) (by simp), .same ((Upd.refl [] w).alloc _)⟩

theorem do_any {w : World} {base : Nat} {f : Foot} {s : DS} (h : DiskAt w base f s) (hbase : base ≤ w.heap.size) (hql : s.q.length < 1000000) (a : ActR) (ht : a.text.size ≤ 100) (haf : a.after ≤ 9223372036854775807) :
    Calls Try.prog 10 #[.pointer (some ⟨f.B, 0, none⟩), a.val] w (DoPost base f (s.act a) w) := by
  unfold DS.act
  split
  · exact do_write h hbase hql a ht (by assumption)
  split
  · exact do_read h (by omega) a (by assumption)
  split
  · exact do_sync h (by omega) a (by assumption)
  split
  · exact do_fail h (by omega) a (by assumption)
  split
  · exact do_start h a (by assumption)
  split
  · exact do_arm h hbase a haf (by assumption)
  exact do_none h a (by omega)

end Go.Proofs.Ytcihncgajkogkaa
