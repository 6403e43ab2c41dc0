/- Packets, copies; the comparison of Send. -/
import Derived.Test.YtlmfgdibodpniaaSeg
namespace Go.Proofs.Ytlmfgdibodpniaa
open Go.RowKit

structure Pk where
  src : Int
  dst : Int
  body : ByteArray
deriving DecidableEq
instance : Inhabited Pk := ⟨⟨0, 0, ByteArray.empty⟩⟩
def Pk.val (p : Pk) : Value := .agg #[.int .i64 p.src, .int .i64 p.dst, .string p.body]
def pkVals (p : Pk) : List Value := [.int .i64 p.src, .int .i64 p.dst, .string p.body]

/-- A copy on its way: the packet, when it arrives, its number. -/
structure Cp where
  p : Pk
  t : Nat
  k : Nat
instance : Inhabited Cp := ⟨⟨default, 0, 0⟩⟩
def Cp.val (c : Cp) : Value := .agg #[.int .i64 c.p.src, .int .i64 c.p.dst, .string c.p.body, .int .i64 c.t, .int .i64 c.k]
def cpVals (c : Cp) : List Value := [.int .i64 c.p.src, .int .i64 c.p.dst, .string c.p.body, .int .i64 c.t, .int .i64 c.k]

def cmpI (a b : Int) : Int := if a < b then -1 else if b < a then 1 else 0
def cmpC (a b : Cp) : Int := if cmpI a.t b.t ≠ 0 then cmpI a.t b.t else cmpI a.k b.k

set_option maxHeartbeats 400000 in
theorem compare_any (a b : Int) (w : World) : Calls Try.prog 34 #[.int .i64 a, .int .i64 b] w fun e w' => e = .returned (.int .i64 (cmpI a b)) ∧ w = w' := by
  have hn : ∀ (x : Int) (w : World), Calls Try.prog 38 #[.int .i64 x] w fun e w' => e = .returned (.bool false) ∧ w = w' := by
    intro x w
    go_enter Try.func38, Try.ntmps38
    go_wp2
    go_ret
    exact ⟨ret_bool (by simp), rfl⟩
  by_cases h1 : a < b
  · go_enter Try.func34, Try.ntmps34
    go_wp2_with (go_at_call 38; refine (hn _ _).mono ?_; rintro e w' ⟨rfl, rfl⟩)
    go_ret
    exact ⟨ret_int (by unfold cmpI; rw [if_pos h1]), rfl⟩
  · by_cases h2 : b < a
    · go_enter Try.func34, Try.ntmps34
      go_wp2_with (go_at_call 38; refine (hn _ _).mono ?_; rintro e w' ⟨rfl, rfl⟩)
      go_ret
      exact ⟨ret_int (by unfold cmpI; rw [if_neg (by omega), if_pos h2]), rfl⟩
    · go_enter Try.func34, Try.ntmps34
      go_wp2_with (go_at_call 38; refine (hn _ _).mono ?_; rintro e w' ⟨rfl, rfl⟩)
      go_ret
      exact ⟨ret_int (by unfold cmpI; rw [if_neg (by omega), if_neg (by omega)]), rfl⟩

set_option maxHeartbeats 400000 in
theorem or_any (b : Nat) (c : Nat) (x y : Int) (w : World) (h0 : w.cell? ⟨b, 0, none⟩ = some (.int .i64 x)) (h1 : w.cell? ⟨b, 1, none⟩ = some (.int .i64 y)) :
    Calls Try.prog 33 #[.slice (some ⟨b, 0, none⟩) 2 c] w fun e w' => e = .returned (.int .i64 (if x ≠ 0 then x else y)) ∧ w = w' := by
  by_cases hx : x = 0
  · have hb : (x != 0) = false := by simpa using hx
    by_cases hy : y = 0
    · have hc : (y != 0) = false := by simpa using hy
      go_enter Try.func33, Try.ntmps33
      go_wp2
      refine wp_loop_rounds 3 ?_; rw [rounds_succ]
      go_wp2
      rw [rounds_succ]
      go_wp2
      rw [rounds_succ]
      go_wp2
      go_ret
      exact ⟨ret_int (by simp [hx, hy]), rfl⟩
    · have hc : (y != 0) = true := by simpa using hy
      go_enter Try.func33, Try.ntmps33
      go_wp2
      refine wp_loop_rounds 3 ?_; rw [rounds_succ]
      go_wp2
      rw [rounds_succ]
      go_wp2
      go_ret
      exact ⟨ret_int (by simp [hx]), rfl⟩
  · have hb : (x != 0) = true := by simpa using hx
    go_enter Try.func33, Try.ntmps33
    go_wp2
    refine wp_loop_rounds 3 ?_; rw [rounds_succ]
    go_wp2
    go_ret
    exact ⟨ret_int (by simp [hx]), rfl⟩

set_option maxHeartbeats 1000000 in
theorem closure_any (a b : Cp) (w : World) : Calls Try.prog 32 #[a.val, b.val] w fun e w' => e = .returned (.int .i64 (cmpC a b)) ∧ Upd [] w w' := by
  obtain ⟨⟨a0, a1, a2⟩, at_, ak⟩ := a
  obtain ⟨⟨b0, b1, b2⟩, bt, bk⟩ := b
  have HC : Hid (∀ v, v = (if cmpI at_ bt ≠ 0 then cmpI at_ bt else cmpI ak bk) → v = cmpC ⟨⟨a0, a1, a2⟩, at_, ak⟩ ⟨⟨b0, b1, b2⟩, bt, bk⟩) := fun v h => h
  unfold Cp.val
  simp only
  go_enter Try.func32, Try.ntmps32
  go_wp2_with fail
  generalize hW : ((w.alloc (Obj.cells #[Value.int .i64 a0, Value.int .i64 a1, Value.string a2, Value.int .i64 at_, Value.int .i64 ak] 65)).alloc (Obj.cells #[Value.int .i64 b0, Value.int .i64 b1, Value.string b2, Value.int .i64 bt, Value.int .i64 bk] 65)) = W
  have HU : Hid (Upd [] w W) := by rw [← hW]; exact ((Upd.refl _ _).alloc _).alloc _
  have f1 : W.cell? ⟨w.heap.size, 3, none⟩ = some (.int .i64 at_) := by rw [← hW]; simp
  have f2 : W.cell? ⟨w.heap.size, 4, none⟩ = some (.int .i64 ak) := by rw [← hW]; simp
  have f3 : W.cell? ⟨w.heap.size + 1, 3, none⟩ = some (.int .i64 bt) := by rw [← hW]; simp
  have f4 : W.cell? ⟨w.heap.size + 1, 4, none⟩ = some (.int .i64 bk) := by rw [← hW]; simp
  have hs : w.heap.size + 2 = W.heap.size := by rw [← hW]; simp
  clear hW
  have r1 := fun p : After W => p.cell f1
  have r2 := fun p : After W => p.cell f2
  have r3 := fun p : After W => p.cell f3
  have r4 := fun p : After W => p.cell f4
  refine region_after 10 (by kernel_rfl) (by kernel_rfl) ?_
  simp only [List.take_succ_cons, List.take_zero, List.drop_succ_cons, List.drop_zero]
  repeat (go_big_quiet_step ((go_at_call 34; exact After.call _ ((compare_any _ _ _).mono fun e w' h => ⟨h.1, by rw [← h.2]; exact Upd.refl _ _⟩))))
  refine wpQuiet_nil ?_
  rintro _ ⟨p, rfl⟩
  go_wp2_with fail
  obtain ⟨v, hv⟩ : ∃ v, v = (if cmpI at_ bt ≠ 0 then cmpI at_ bt else cmpI ak bk) := ⟨_, rfl⟩
  have c := or_any p.w.heap.size 2 (cmpI at_ bt) (cmpI ak bk) (p.w.alloc (Obj.cells #[Value.int IntKind.i64 (cmpI at_ bt), Value.int IntKind.i64 (cmpI ak bk)] 3)) (by simp) (by simp)
  rw [← hv] at c
  have HV := HC.out _ hv
  have HV' := Lib.hid HV
  clear hv HV
  refine c.mono ?_
  rintro e w' ⟨rfl, rfl⟩
  clear c
  go_wp2
  go_ret
  exact ⟨ret_int HV'.out, (HU.out.trans p.upd).alloc _⟩
end Go.Proofs.Ytlmfgdibodpniaa
