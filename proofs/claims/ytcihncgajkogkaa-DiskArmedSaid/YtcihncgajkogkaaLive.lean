/- One disk that lives in the call's own memory: its methods. -/
import Derived.Test.YtcihncgajkogkaaCont
namespace Go.Proofs.Ytcihncgajkogkaa
open Go.RowKit

/-- A disk at block B, in memory made since w0; what was there at w0 is as it was. -/
def Live (w0 w : World) (B : Nat) (s : DS) : Prop := ∃ f : Foot, f.B = B ∧ DiskAt w w0.heap.size f s ∧ Upd [] w0 w

theorem Live.upd {w0 w : World} {B : Nat} {s : DS} (h : Live w0 w B s) : Upd [] w0 w := let ⟨_, _, _, h⟩ := h; h
theorem Live.keep {w0 w w' : World} {B : Nat} {s : DS} (h : Live w0 w B s) (hu : Upd [] w w') : Live w0 w' B s := by
  obtain ⟨f, hB, hd, h0⟩ := h
  exact ⟨f, hB, hd.upd hu (by simp), h0.trans hu⟩
theorem Live.wf {w0 w : World} {B : Nat} {s : DS} (h : Live w0 w B s) : s.Wf := let ⟨_, _, hd, _⟩ := h; hd.wf

theorem Live.turn {w0 w w' : World} {f f' : Foot} {s s' : DS} (hd : DiskAt w w0.heap.size f s) (h0 : Upd [] w0 w) (hd' : DiskAt w' w0.heap.size f' s') (ht : Turn f f' w w') : Live w0 w' f.B s' :=
  ⟨f', ht.B, hd', h0.then ht.upd fun k hk => .inr (hd.ge k hk)⟩

section
variable {w0 w : World} {B : Nat} {s : DS} (h : Live w0 w B s)
include h
theorem live_fail (hq : s.q.length ≤ 1000000) (wr b : Int) :
    Calls Try.prog 16 #[.pointer (some ⟨B, 0, none⟩), .int .i64 wr, .int .i64 b] w fun e w' => e = .returned (.tuple #[]) ∧ Live w0 w' B (s.fail wr b) := by
  obtain ⟨f, rfl, hd, h0⟩ := h
  exact (fail_any hd hq wr b).mono fun e w' ⟨he, f', x, y⟩ => ⟨he, Live.turn hd h0 x y⟩
theorem live_start : Calls Try.prog 11 #[.pointer (some ⟨B, 0, none⟩)] w fun e w' => e = .returned (.tuple #[]) ∧ Live w0 w' B s.start := by
  obtain ⟨f, rfl, hd, h0⟩ := h
  exact (start_any hd).mono fun e w' ⟨he, f', x, y⟩ => ⟨he, Live.turn hd h0 x y⟩
theorem live_arm (a wr b : Int) (ha : a ≤ 9223372036854775807) :
    Calls Try.prog 19 #[.pointer (some ⟨B, 0, none⟩), .int .i64 a, .int .i64 wr, .int .i64 b] w fun e w' => e = .returned (.tuple #[]) ∧ Live w0 w' B (s.arm a wr b) := by
  obtain ⟨f, rfl, hd, h0⟩ := h
  exact (arm_any hd a wr b h0.size ha).mono fun e w' ⟨he, f', x, y⟩ => ⟨he, Live.turn hd h0 x y⟩
theorem live_sync (hq : s.q.length ≤ 1000000) :
    Calls Try.prog 12 #[.pointer (some ⟨B, 0, none⟩)] w fun e w' => e = .returned (.int .i64 s.sync.2) ∧ Live w0 w' B s.sync.1 := by
  obtain ⟨f, rfl, hd, h0⟩ := h
  exact (sync_any hd hq).mono fun e w' ⟨he, f', x, y⟩ => ⟨he, Live.turn hd h0 x y⟩
theorem live_write (hq : s.q.length < 1000000) (sec : Int) (t : ByteArray) (ht : t.size ≤ maxLen) :
    Calls Try.prog 14 #[.pointer (some ⟨B, 0, none⟩), .int .i64 sec, .string t] w fun e w' => e = .returned (.int .i64 (s.write sec t).2) ∧ Live w0 w' B (s.write sec t).1 := by
  obtain ⟨f, rfl, hd, h0⟩ := h
  exact (write_any hd h0.size hq sec t ht).mono fun e w' ⟨he, f', x, y⟩ => ⟨he, Live.turn hd h0 x y⟩
theorem live_read (hq : s.q.length ≤ 1000000) (sec : Int) :
    Calls Try.prog 21 #[.pointer (some ⟨B, 0, none⟩), .int .i64 sec] w fun e w' => e = .returned (.tuple #[.string (s.read sec).1, .int .i64 (s.read sec).2]) ∧ Upd [] w w' := by
  obtain ⟨f, rfl, hd, h0⟩ := h
  exact read_any hd hq sec
theorem live_do (hq : s.q.length < 1000000) (a : ActR) (ht : a.text.size ≤ 100) (ha : a.after ≤ 9223372036854775807) :
    Calls Try.prog 10 #[.pointer (some ⟨B, 0, none⟩), a.val] w fun e w' => (∃ t n, e = .returned (.tuple #[.string t, .int .i64 n])) ∧ Live w0 w' B (s.act a) := by
  obtain ⟨f, rfl, hd, h0⟩ := h
  exact (do_any hd h0.size hq a ht ha).mono fun e w' ⟨he, f', x, y⟩ => ⟨he, Live.turn hd h0 x y⟩
theorem live_contents (hq : s.q.length ≤ 1000000) (ho : s.off = false) :
    Calls Try.prog 13 #[.pointer (some ⟨B, 0, none⟩), .int .i64 s.n] w fun e w' => ∃ v, e = .returned (.tuple #[v, .bool true]) ∧ StrsAt w' w.heap.size v s.all ∧ Upd [] w w' := by
  obtain ⟨f, rfl, hd, h0⟩ := h
  exact contents_any hd hq ho
end

theorem live_new (w0 w : World) (h0 : Upd [] w0 w) (k : Nat) (h1 : 1 ≤ k) (h2 : k ≤ 4000) :
    Calls Try.prog 9 #[.int .i64 k] w fun e w' => ∃ B, e = .returned (.pointer (some ⟨B, 0, none⟩)) ∧ Live w0 w' B (DS.new k) := by
  exact (new_any k w w0.heap.size h0.size h1 h2).mono fun e w' ⟨f, he, x, y, z⟩ => ⟨f.B, he, f, rfl, x, h0.trans y⟩

/-! ### nil receivers -/
set_option maxHeartbeats 400000 in
theorem nil_fail (wr b : Int) (w : World) : Calls Try.prog 16 #[.pointer none, .int .i64 wr, .int .i64 b] w fun e w' => e = .returned (.tuple #[]) ∧ w = w' := by
  go_enter Try.func16, Try.ntmps16
  go_wp2
  first | go_end0 | refine bodyPost_ret (results_none rfl _ _ _) rfl ?_
  exact ⟨rfl, rfl⟩
set_option maxHeartbeats 400000 in
theorem nil_start (w : World) : Calls Try.prog 11 #[.pointer none] w fun e w' => e = .returned (.tuple #[]) ∧ w = w' := by
  go_enter Try.func11, Try.ntmps11
  go_wp2
  first | go_end0 | refine bodyPost_ret (results_none rfl _ _ _) rfl ?_
  exact ⟨rfl, rfl⟩
set_option maxHeartbeats 400000 in
theorem nil_arm (a wr b : Int) (w : World) : Calls Try.prog 19 #[.pointer none, .int .i64 a, .int .i64 wr, .int .i64 b] w fun e w' => e = .returned (.tuple #[]) ∧ w = w' := by
  go_enter Try.func19, Try.ntmps19
  go_wp2
  first | go_end0 | refine bodyPost_ret (results_none rfl _ _ _) rfl ?_
  exact ⟨rfl, rfl⟩
set_option maxHeartbeats 400000 in
theorem nil_sync (w : World) : Calls Try.prog 12 #[.pointer none] w fun e w' => e = .returned (.int .i64 1) ∧ w = w' := by
  go_enter Try.func12, Try.ntmps12
  go_wp2
  go_ret
  exact ⟨rfl, rfl⟩
set_option maxHeartbeats 400000 in
theorem nil_at (sec : Int) (w : World) : Calls Try.prog 24 #[.pointer none, .int .i64 sec] w fun e w' => e = .returned (.tuple #[.agg #[.int .i64 0, .int .i64 0], .int .i64 1]) ∧ Upd [] w w' := by
  go_enter Try.func24, Try.ntmps24
  go_wp2
  exact bodyPost_ret (v := .tuple #[.agg #[.int .i64 0, .int .i64 0], .int .i64 1]) (by simp [results, Try.results24, go_sem]) rfl ⟨rfl, (Upd.refl _ _).alloc _⟩
set_option maxHeartbeats 400000 in
theorem nil_write (sec : Int) (t : ByteArray) (w : World) : Calls Try.prog 14 #[.pointer none, .int .i64 sec, .string t] w fun e w' => e = .returned (.int .i64 1) ∧ Upd [] w w' := by
  go_enter Try.func14, Try.ntmps14
  go_wp2_with fail
  refine (nil_at sec _).mono ?_
  rintro e w1 ⟨rfl, hu1⟩
  go_wp2
  go_ret
  exact ⟨rfl, hu1.alloc _⟩

end Go.Proofs.Ytcihncgajkogkaa
