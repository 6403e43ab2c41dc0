/- (*Disk).Fail. -/
import Derived.Test.YtcihncgajkogkaaSettle
namespace Go.Proofs.Ytcihncgajkogkaa
open Go.RowKit

def cutB (b : Int) : Nat := min b.toNat 32
def DS.failSt (s : DS) (wr b : Int) : List UInt8 :=
  let n := min wr.toNat s.q.length
  match s.q[n]? with
  | some p => splice (settleL s.st (s.q.take n)) (p.1 * 32) (p.2.data.toList.take (cutB b))
  | none => settleL s.st (s.q.take n)
def DS.fail (s : DS) (wr b : Int) : DS := if s.off then s else { s with st := s.failSt wr b, q := [], off := true, armed := none }

theorem pendsAt_of {w : World} {base : Nat} {g cap : Nat} {q : List (Nat × ByteArray)} (h : w.ownsRow base 60 3 (.slice (some ⟨g, 0, none⟩) q.length cap) q.length (q.flatMap pendVals)) : PendsAt w g q := by
  have hc := h.cells (g := g) rfl
  have hadd : ∀ j, (⟨g, 0, none⟩ : Addr).add j = ⟨g, j, none⟩ := by intro j; unfold Addr.add; split <;> simp_all
  have key : ∀ (q : List (Nat × ByteArray)) (i : Nat) (hi : i < q.length), (q.flatMap pendVals)[i * 3]? = some (.int .i64 (q[i].1 * 32)) ∧ (q.flatMap pendVals)[i * 3 + 1]? = some (.int .i64 ((q[i].1 + 1) * 32)) ∧ (q.flatMap pendVals)[i * 3 + 2]? = some (.string q[i].2) := by
    intro q
    induction q with
    | nil => intro i hi; simp at hi
    | cons p q ih =>
      intro i hi
      rw [List.flatMap_cons]
      cases i with
      | zero => exact ⟨rfl, rfl, rfl⟩
      | succ i =>
        have h2 := ih i (by simpa using hi)
        have hl : (pendVals p).length = 3 := rfl
        have e0 : (i + 1) * 3 = i * 3 + 3 := by omega
        rw [List.getElem?_append_right (by omega), List.getElem?_append_right (by omega), List.getElem?_append_right (by omega), hl]
        have e1 : (i + 1) * 3 - 3 = i * 3 := by omega
        have e2 : (i + 1) * 3 + 1 - 3 = i * 3 + 1 := by omega
        have e3 : (i + 1) * 3 + 2 - 3 = i * 3 + 2 := by omega
        rw [e1, e2, e3]
        exact h2
  refine ⟨fun i hi => ?_, fun i hi => ?_, fun i hi => ?_⟩
  · have := hc _ _ (key q i hi).1; rwa [hadd] at this
  · have := hc _ _ (key q i hi).2.1; rwa [hadd] at this
  · have := hc _ _ (key q i hi).2.2; rwa [hadd] at this

set_option maxHeartbeats 400000 in
theorem fail_off {w : World} {base : Nat} {f : Foot} {s : DS} (h : DiskAt w base f s) (wr b : Int) (ho : s.off = true) :
    Calls Try.prog 16 #[.pointer (some ⟨f.B, 0, none⟩), .int .i64 wr, .int .i64 b] w fun e w' => e = .returned (.tuple #[]) ∧ w = w' := by
  obtain ⟨qv, av, c0, c1, c2, c3, hfz, _⟩ := h.cells
  rw [ho] at c2
  clear h c0 c1 c3
  go_enter Try.func16, Try.ntmps16
  go_wp2
  first | go_end0 | refine bodyPost_ret (results_none rfl _ _ _) rfl ?_
  exact ⟨rfl, rfl⟩

set_option maxHeartbeats 400000 in
theorem fail_nil {w : World} {B : Nat} (st av : Value) (wr b : Int)
    (c1 : w.cell? ⟨B, 1, none⟩ = some (.slice none 0 0)) (c2 : w.cell? ⟨B, 2, none⟩ = some (.bool false)) (c3 : w.cell? ⟨B, 3, none⟩ = some av) (hfz : ∀ i, w.frozen? ⟨B, i, none⟩ = false) :
    Calls Try.prog 16 #[.pointer (some ⟨B, 0, none⟩), .int .i64 wr, .int .i64 b] w fun e w' => e = .returned (.tuple #[]) ∧
      w' = ((w.setCell ⟨B, 1, none⟩ (.slice none 0 0)).setCell ⟨B, 2, none⟩ (.bool true)).setCell ⟨B, 3, none⟩ (.pointer none) := by
  rcases Int.lt_trichotomy wr 0 with hwr | rfl | hwr
  all_goals
    go_enter Try.func16, Try.ntmps16
    go_wp2_with (go_at_call 23; refine (settle_nil _ _).mono ?_; rintro e w' ⟨rfl, rfl⟩)
    go_end0
    exact ⟨rfl, rfl⟩

theorem run_slice_pre (g : Nat) (len cap : Nat) (n : Int) (n' : Nat) (hn : n = n') (h : n' ≤ cap) (wx : World) :
    (Instr.slice 50 (.slice (some ⟨g, 0, none⟩) len cap) none (some (.int .i64 n)) none).run Try.prog wx = .ok (.slice (some ⟨g, 0, none⟩) n' cap) wx := by
  subst hn
  have s50 : Try.prog.underlying 50 = some (.slice (Try.prog.elem 50)) := by kernel_rfl
  have z50 : (sizeOf (Try.prog.elem 50)).run Try.prog wx = .ok 3 wx := by kernel_rfl
  rw [run_slice_h wx 50 _ _ cap s50 .i64 _ (by omega) (by omega), z50]
  simp [Result.andThen, sliced, Addr.add]

set_option maxHeartbeats 2000000 in
theorem fail_some {w : World} {B S g : Nat} (n cap : Nat) (st : List UInt8) (q : List (Nat × ByteArray)) (av : Value) (wr b : Int) (k c : Nat)
    (hn : n ≤ 4000) (hq : q.length ≤ 1000000) (hcap : q.length ≤ cap) (hk : k < q.length)
    (hwr : (wr < 0 ∧ k = 0) ∨ wr = k) (hb : (b < 0 ∧ c = 0) ∨ (b = c ∧ c ≤ 32) ∨ (32 < b ∧ c = 32))
    (c0 : w.cell? ⟨B, 0, none⟩ = some (.slice (some ⟨S, 0, none⟩) (n * 32) (n * 32)))
    (c1 : w.cell? ⟨B, 1, none⟩ = some (.slice (some ⟨g, 0, none⟩) q.length cap)) (c2 : w.cell? ⟨B, 2, none⟩ = some (.bool false)) (c3 : w.cell? ⟨B, 3, none⟩ = some av) (hfz : ∀ i, w.frozen? ⟨B, i, none⟩ = false)
    (hBS : B ≠ S) (hgS : g ≠ S)
    (hS : w.heap[S]? = some (.cells (st.map byteCell).toArray 5)) (hst : st.length = n * 32) (hp : ∀ p ∈ q, p.1 < n ∧ p.2.size = 32) (hps : PendsAt w g q) :
    Calls Try.prog 16 #[.pointer (some ⟨B, 0, none⟩), .int .i64 wr, .int .i64 b] w fun e w' => e = .returned (.tuple #[]) ∧ ∃ w1,
      w' = ((w1.setCell ⟨B, 1, none⟩ (.slice none 0 0)).setCell ⟨B, 2, none⟩ (.bool true)).setCell ⟨B, 3, none⟩ (.pointer none) ∧ Upd [S] w w1 ∧
      w1.heap[S]? = some (.cells ((splice (settleL st (q.take k)) (q[k].1 * 32) (q[k].2.data.toList.take c)).map byteCell).toArray 5) := by
  have HSET := fun (w : World) => settle_some w B S g n cap st (q.take k) hn (by rw [List.length_take]; omega)
  have hlen : (q.take k).length = k := by rw [List.length_take]; omega
  rw [hlen] at HSET
  have hsl := run_slice_pre g q.length cap k k rfl (by omega)
  have HH := Lib.hid HSET
  clear HSET
  obtain ⟨sec, t, hqk⟩ : ∃ sec t, q[k] = (sec, t) := ⟨_, _, rfl⟩
  have hpk := hp q[k] (List.getElem_mem hk)
  have HC0 := Lib.hid (hps.c0 k hk)
  have HC1 := Lib.hid (hps.c1 k hk)
  have HC2 := Lib.hid (hps.c2 k hk)
  rw [hqk] at hpk HC0 HC1 HC2 ⊢
  have hsec : sec < n := hpk.1
  have HTS : Hid (t.size = 32) := hpk.2
  have HST := Lib.hid hst
  have HS := Lib.hid hS
  have HP : Hid (∀ p ∈ q.take k, p.1 < n ∧ p.2.size = 32) := fun p h => hp p (List.mem_of_mem_take h)
  have HPS : PendsAt w g (q.take k) := ⟨fun i hi => by have := hps.c0 i (by omega); simpa using this, fun i hi => by have := hps.c1 i (by omega); simpa using this, fun i hi => by have := hps.c2 i (by omega); simpa using this⟩
  have hBl : B < w.heap.size := World.block_lt_of_cell? _ _ c0
  have hgl : g < w.heap.size := World.block_lt_of_cell? _ _ (hps.c0 k hk)
  clear hpk hp hps hst hS hqk
  rcases hwr with ⟨hwr, rfl⟩ | rfl
  · rcases hb with ⟨hb, rfl⟩ | ⟨rfl, hb⟩ | ⟨hb, rfl⟩
    · go_enter Try.func16, Try.ntmps16
      go_wp2_with fail
      refine ((HH.out w c0 hBS hgS HS.out HST.out HP.out HPS).mono ?_)
      rintro e w1 ⟨rfl, hS1, hu1⟩
      have HS1 := Lib.hid hS1
      have hz1 := hu1.size
      have b0 := hu1.cell c0 (by simpa using hBS)
      have b1 := hu1.cell c1 (by simpa using hBS)
      have b2 := hu1.cell c2 (by simpa using hBS)
      have b3 := hu1.cell c3 (by simpa using hBS)
      have bz : ∀ i, w1.frozen? ⟨B, i, none⟩ = false := fun i => (hu1.frozen (p := ⟨B, i, none⟩) hBl (by simpa using hBS)).trans (hfz i)
      have q0 := hu1.cell HC0.out (by simpa using hgS)
      have q1 := hu1.cell HC1.out (by simpa using hgS)
      have q2 := hu1.cell HC2.out (by simpa using hgS)
      have hBl1 : B < w1.heap.size := by omega
      have hgl1 : g < w1.heap.size := by omega
      clear c0 c1 c2 c3 hfz hS1 hsl
      go_wp2
      refine region_tail 13 (by kernel_rfl) (by kernel_rfl) ?_
      intro w2 H1
      have d0 := drew_cell H1 (p := ⟨B, 0, none⟩) (by rw [World.cell?_alloc_lt _ _ _ hBl1]; exact b0)
      have d1 := drew_cell H1 (p := ⟨B, 1, none⟩) (by rw [World.cell?_alloc_lt _ _ _ hBl1]; exact b1)
      have d2 := drew_cell H1 (p := ⟨B, 2, none⟩) (by rw [World.cell?_alloc_lt _ _ _ hBl1]; exact b2)
      have d3 := drew_cell H1 (p := ⟨B, 3, none⟩) (by rw [World.cell?_alloc_lt _ _ _ hBl1]; exact b3)
      have e0 := drew_cell H1 (p := ⟨w1.heap.size, 0, none⟩) (by rw [World.cell?_alloc_new]; rfl)
      have e1 := drew_cell H1 (p := ⟨w1.heap.size, 1, none⟩) (by rw [World.cell?_alloc_new]; rfl)
      have e2 := drew_cell H1 (p := ⟨w1.heap.size, 2, none⟩) (by rw [World.cell?_alloc_new]; rfl)
      have u2 : Upd [] w1 w2 := ((Upd.refl [] w1).alloc _).trans (drew_upd H1 [])
      have dz : ∀ i, w2.frozen? ⟨B, i, none⟩ = false := fun i => (u2.frozen (p := ⟨B, i, none⟩) hBl1 (by simp)).trans (bz i)
      have hz2 := u2.size
      have hBl2 : B < w2.heap.size := by omega
      clear b0 b1 b2 b3 q0 q1 q2 bz
      have hsl2 := run_slice_part S (n * 32) (↑sec * 32) (↑sec * 32) (sec * 32) (0) (by omega) (by omega) (by omega) (by omega)
      simp only [List.take_succ_cons, List.take_zero, List.drop_succ_cons, List.drop_zero]
      repeat still_step
      refine wpStill_nil ?_
      clear hsl2
      refine wpList_copy_str rfl (.tmp 65) (.tmp 67) 49 9 rfl 5 Try.underlying49 info5 S (sec * 32) (0) (n * 32 - sec * 32) t rfl rfl ((settleL st (q.take 0)).map byteCell) 5 0 (by rw [HTS.out]; exact Nat.min_eq_right (by omega)) ?_ ?_ ?_
      · unfold Hid
        rw [u2.block S (Nat.lt_of_lt_of_le (Array.getElem?_eq_some_iff.1 HS.out).1 hz1) (by simp)]
        exact HS1.out
      · rw [List.length_map, settle_len st _ n HST.out HP.out]
        omega
      intro w3 HS3 hu3 hz3
      have hu : Upd [S] w w3 := (hu1.trans (u2.mono (by simp))).trans hu3
      have f1 := hu3.cell d1 (by simpa using hBS)
      have f2 := hu3.cell d2 (by simpa using hBS)
      have f3 := hu3.cell d3 (by simpa using hBS)
      have fz : ∀ i, w3.frozen? ⟨B, i, none⟩ = false := fun i => (hu3.frozen (p := ⟨B, i, none⟩) hBl2 (by simpa using hBS)).trans (dz i)
      have hlast : Hid (w3.heap[S]? = some (.cells ((splice (settleL st (q.take 0)) (sec * 32) (t.data.toList.take 0)).map byteCell).toArray 5)) := by
        unfold Hid
        rw [HS3.out, byteVals, splice_map]
      clear d0 d1 d2 d3 e0 e1 e2 dz HS3 u2 hu1 hz1 hz2 hz3 hu3
      go_wp2
      go_end0
      exact ⟨rfl, w3, rfl, hu, hlast.out⟩
    · go_enter Try.func16, Try.ntmps16
      go_wp2_with fail
      refine ((HH.out w c0 hBS hgS HS.out HST.out HP.out HPS).mono ?_)
      rintro e w1 ⟨rfl, hS1, hu1⟩
      have HS1 := Lib.hid hS1
      have hz1 := hu1.size
      have b0 := hu1.cell c0 (by simpa using hBS)
      have b1 := hu1.cell c1 (by simpa using hBS)
      have b2 := hu1.cell c2 (by simpa using hBS)
      have b3 := hu1.cell c3 (by simpa using hBS)
      have bz : ∀ i, w1.frozen? ⟨B, i, none⟩ = false := fun i => (hu1.frozen (p := ⟨B, i, none⟩) hBl (by simpa using hBS)).trans (hfz i)
      have q0 := hu1.cell HC0.out (by simpa using hgS)
      have q1 := hu1.cell HC1.out (by simpa using hgS)
      have q2 := hu1.cell HC2.out (by simpa using hgS)
      have hBl1 : B < w1.heap.size := by omega
      have hgl1 : g < w1.heap.size := by omega
      clear c0 c1 c2 c3 hfz hS1 hsl
      go_wp2
      refine region_tail 13 (by kernel_rfl) (by kernel_rfl) ?_
      intro w2 H1
      have d0 := drew_cell H1 (p := ⟨B, 0, none⟩) (by rw [World.cell?_alloc_lt _ _ _ hBl1]; exact b0)
      have d1 := drew_cell H1 (p := ⟨B, 1, none⟩) (by rw [World.cell?_alloc_lt _ _ _ hBl1]; exact b1)
      have d2 := drew_cell H1 (p := ⟨B, 2, none⟩) (by rw [World.cell?_alloc_lt _ _ _ hBl1]; exact b2)
      have d3 := drew_cell H1 (p := ⟨B, 3, none⟩) (by rw [World.cell?_alloc_lt _ _ _ hBl1]; exact b3)
      have e0 := drew_cell H1 (p := ⟨w1.heap.size, 0, none⟩) (by rw [World.cell?_alloc_new]; rfl)
      have e1 := drew_cell H1 (p := ⟨w1.heap.size, 1, none⟩) (by rw [World.cell?_alloc_new]; rfl)
      have e2 := drew_cell H1 (p := ⟨w1.heap.size, 2, none⟩) (by rw [World.cell?_alloc_new]; rfl)
      have u2 : Upd [] w1 w2 := ((Upd.refl [] w1).alloc _).trans (drew_upd H1 [])
      have dz : ∀ i, w2.frozen? ⟨B, i, none⟩ = false := fun i => (u2.frozen (p := ⟨B, i, none⟩) hBl1 (by simp)).trans (bz i)
      have hz2 := u2.size
      have hBl2 : B < w2.heap.size := by omega
      clear b0 b1 b2 b3 q0 q1 q2 bz
      have hsl2 := run_slice_part S (n * 32) (↑sec * 32) (↑sec * 32 + ↑c) (sec * 32) (c) (by omega) (by omega) (by omega) (by omega)
      simp only [List.take_succ_cons, List.take_zero, List.drop_succ_cons, List.drop_zero]
      repeat still_step
      refine wpStill_nil ?_
      clear hsl2
      refine wpList_copy_str rfl (.tmp 65) (.tmp 67) 49 9 rfl 5 Try.underlying49 info5 S (sec * 32) (c) (n * 32 - sec * 32) t rfl rfl ((settleL st (q.take 0)).map byteCell) 5 c (by rw [HTS.out]; exact Nat.min_eq_right (by omega)) ?_ ?_ ?_
      · unfold Hid
        rw [u2.block S (Nat.lt_of_lt_of_le (Array.getElem?_eq_some_iff.1 HS.out).1 hz1) (by simp)]
        exact HS1.out
      · rw [List.length_map, settle_len st _ n HST.out HP.out]
        omega
      intro w3 HS3 hu3 hz3
      have hu : Upd [S] w w3 := (hu1.trans (u2.mono (by simp))).trans hu3
      have f1 := hu3.cell d1 (by simpa using hBS)
      have f2 := hu3.cell d2 (by simpa using hBS)
      have f3 := hu3.cell d3 (by simpa using hBS)
      have fz : ∀ i, w3.frozen? ⟨B, i, none⟩ = false := fun i => (hu3.frozen (p := ⟨B, i, none⟩) hBl2 (by simpa using hBS)).trans (dz i)
      have hlast : Hid (w3.heap[S]? = some (.cells ((splice (settleL st (q.take 0)) (sec * 32) (t.data.toList.take c)).map byteCell).toArray 5)) := by
        unfold Hid
        rw [HS3.out, byteVals, splice_map]
      clear d0 d1 d2 d3 e0 e1 e2 dz HS3 u2 hu1 hz1 hz2 hz3 hu3
      go_wp2
      go_end0
      exact ⟨rfl, w3, rfl, hu, hlast.out⟩
    · go_enter Try.func16, Try.ntmps16
      go_wp2_with fail
      refine ((HH.out w c0 hBS hgS HS.out HST.out HP.out HPS).mono ?_)
      rintro e w1 ⟨rfl, hS1, hu1⟩
      have HS1 := Lib.hid hS1
      have hz1 := hu1.size
      have b0 := hu1.cell c0 (by simpa using hBS)
      have b1 := hu1.cell c1 (by simpa using hBS)
      have b2 := hu1.cell c2 (by simpa using hBS)
      have b3 := hu1.cell c3 (by simpa using hBS)
      have bz : ∀ i, w1.frozen? ⟨B, i, none⟩ = false := fun i => (hu1.frozen (p := ⟨B, i, none⟩) hBl (by simpa using hBS)).trans (hfz i)
      have q0 := hu1.cell HC0.out (by simpa using hgS)
      have q1 := hu1.cell HC1.out (by simpa using hgS)
      have q2 := hu1.cell HC2.out (by simpa using hgS)
      have hBl1 : B < w1.heap.size := by omega
      have hgl1 : g < w1.heap.size := by omega
      clear c0 c1 c2 c3 hfz hS1 hsl
      go_wp2
      refine region_tail 13 (by kernel_rfl) (by kernel_rfl) ?_
      intro w2 H1
      have d0 := drew_cell H1 (p := ⟨B, 0, none⟩) (by rw [World.cell?_alloc_lt _ _ _ hBl1]; exact b0)
      have d1 := drew_cell H1 (p := ⟨B, 1, none⟩) (by rw [World.cell?_alloc_lt _ _ _ hBl1]; exact b1)
      have d2 := drew_cell H1 (p := ⟨B, 2, none⟩) (by rw [World.cell?_alloc_lt _ _ _ hBl1]; exact b2)
      have d3 := drew_cell H1 (p := ⟨B, 3, none⟩) (by rw [World.cell?_alloc_lt _ _ _ hBl1]; exact b3)
      have e0 := drew_cell H1 (p := ⟨w1.heap.size, 0, none⟩) (by rw [World.cell?_alloc_new]; rfl)
      have e1 := drew_cell H1 (p := ⟨w1.heap.size, 1, none⟩) (by rw [World.cell?_alloc_new]; rfl)
      have e2 := drew_cell H1 (p := ⟨w1.heap.size, 2, none⟩) (by rw [World.cell?_alloc_new]; rfl)
      have u2 : Upd [] w1 w2 := ((Upd.refl [] w1).alloc _).trans (drew_upd H1 [])
      have dz : ∀ i, w2.frozen? ⟨B, i, none⟩ = false := fun i => (u2.frozen (p := ⟨B, i, none⟩) hBl1 (by simp)).trans (bz i)
      have hz2 := u2.size
      have hBl2 : B < w2.heap.size := by omega
      clear b0 b1 b2 b3 q0 q1 q2 bz
      have hsl2 := run_slice_part S (n * 32) (↑sec * 32) (↑sec * 32 + 32) (sec * 32) (32) (by omega) (by omega) (by omega) (by omega)
      simp only [List.take_succ_cons, List.take_zero, List.drop_succ_cons, List.drop_zero]
      repeat still_step
      refine wpStill_nil ?_
      clear hsl2
      refine wpList_copy_str rfl (.tmp 65) (.tmp 67) 49 9 rfl 5 Try.underlying49 info5 S (sec * 32) (32) (n * 32 - sec * 32) t rfl rfl ((settleL st (q.take 0)).map byteCell) 5 32 (by rw [HTS.out]; exact Nat.min_eq_right (by omega)) ?_ ?_ ?_
      · unfold Hid
        rw [u2.block S (Nat.lt_of_lt_of_le (Array.getElem?_eq_some_iff.1 HS.out).1 hz1) (by simp)]
        exact HS1.out
      · rw [List.length_map, settle_len st _ n HST.out HP.out]
        omega
      intro w3 HS3 hu3 hz3
      have hu : Upd [S] w w3 := (hu1.trans (u2.mono (by simp))).trans hu3
      have f1 := hu3.cell d1 (by simpa using hBS)
      have f2 := hu3.cell d2 (by simpa using hBS)
      have f3 := hu3.cell d3 (by simpa using hBS)
      have fz : ∀ i, w3.frozen? ⟨B, i, none⟩ = false := fun i => (hu3.frozen (p := ⟨B, i, none⟩) hBl2 (by simpa using hBS)).trans (dz i)
      have hlast : Hid (w3.heap[S]? = some (.cells ((splice (settleL st (q.take 0)) (sec * 32) (t.data.toList.take 32)).map byteCell).toArray 5)) := by
        unfold Hid
        rw [HS3.out, byteVals, splice_map]
      clear d0 d1 d2 d3 e0 e1 e2 dz HS3 u2 hu1 hz1 hz2 hz3 hu3
      go_wp2
      go_end0
      exact ⟨rfl, w3, rfl, hu, hlast.out⟩
  · rcases hb with ⟨hb, rfl⟩ | ⟨rfl, hb⟩ | ⟨hb, rfl⟩
    · go_enter Try.func16, Try.ntmps16
      go_wp2_with fail
      refine ((HH.out w c0 hBS hgS HS.out HST.out HP.out HPS).mono ?_)
      rintro e w1 ⟨rfl, hS1, hu1⟩
      have HS1 := Lib.hid hS1
      have hz1 := hu1.size
      have b0 := hu1.cell c0 (by simpa using hBS)
      have b1 := hu1.cell c1 (by simpa using hBS)
      have b2 := hu1.cell c2 (by simpa using hBS)
      have b3 := hu1.cell c3 (by simpa using hBS)
      have bz : ∀ i, w1.frozen? ⟨B, i, none⟩ = false := fun i => (hu1.frozen (p := ⟨B, i, none⟩) hBl (by simpa using hBS)).trans (hfz i)
      have q0 := hu1.cell HC0.out (by simpa using hgS)
      have q1 := hu1.cell HC1.out (by simpa using hgS)
      have q2 := hu1.cell HC2.out (by simpa using hgS)
      have hBl1 : B < w1.heap.size := by omega
      have hgl1 : g < w1.heap.size := by omega
      clear c0 c1 c2 c3 hfz hS1 hsl
      go_wp2
      refine region_tail 13 (by kernel_rfl) (by kernel_rfl) ?_
      intro w2 H1
      have d0 := drew_cell H1 (p := ⟨B, 0, none⟩) (by rw [World.cell?_alloc_lt _ _ _ hBl1]; exact b0)
      have d1 := drew_cell H1 (p := ⟨B, 1, none⟩) (by rw [World.cell?_alloc_lt _ _ _ hBl1]; exact b1)
      have d2 := drew_cell H1 (p := ⟨B, 2, none⟩) (by rw [World.cell?_alloc_lt _ _ _ hBl1]; exact b2)
      have d3 := drew_cell H1 (p := ⟨B, 3, none⟩) (by rw [World.cell?_alloc_lt _ _ _ hBl1]; exact b3)
      have e0 := drew_cell H1 (p := ⟨w1.heap.size, 0, none⟩) (by rw [World.cell?_alloc_new]; rfl)
      have e1 := drew_cell H1 (p := ⟨w1.heap.size, 1, none⟩) (by rw [World.cell?_alloc_new]; rfl)
      have e2 := drew_cell H1 (p := ⟨w1.heap.size, 2, none⟩) (by rw [World.cell?_alloc_new]; rfl)
      have u2 : Upd [] w1 w2 := ((Upd.refl [] w1).alloc _).trans (drew_upd H1 [])
      have dz : ∀ i, w2.frozen? ⟨B, i, none⟩ = false := fun i => (u2.frozen (p := ⟨B, i, none⟩) hBl1 (by simp)).trans (bz i)
      have hz2 := u2.size
      have hBl2 : B < w2.heap.size := by omega
      clear b0 b1 b2 b3 q0 q1 q2 bz
      have hsl2 := run_slice_part S (n * 32) (↑sec * 32) (↑sec * 32) (sec * 32) (0) (by omega) (by omega) (by omega) (by omega)
      simp only [List.take_succ_cons, List.take_zero, List.drop_succ_cons, List.drop_zero]
      repeat still_step
      refine wpStill_nil ?_
      clear hsl2
      refine wpList_copy_str rfl (.tmp 65) (.tmp 67) 49 9 rfl 5 Try.underlying49 info5 S (sec * 32) (0) (n * 32 - sec * 32) t rfl rfl ((settleL st (q.take k)).map byteCell) 5 0 (by rw [HTS.out]; exact Nat.min_eq_right (by omega)) ?_ ?_ ?_
      · unfold Hid
        rw [u2.block S (Nat.lt_of_lt_of_le (Array.getElem?_eq_some_iff.1 HS.out).1 hz1) (by simp)]
        exact HS1.out
      · rw [List.length_map, settle_len st _ n HST.out HP.out]
        omega
      intro w3 HS3 hu3 hz3
      have hu : Upd [S] w w3 := (hu1.trans (u2.mono (by simp))).trans hu3
      have f1 := hu3.cell d1 (by simpa using hBS)
      have f2 := hu3.cell d2 (by simpa using hBS)
      have f3 := hu3.cell d3 (by simpa using hBS)
      have fz : ∀ i, w3.frozen? ⟨B, i, none⟩ = false := fun i => (hu3.frozen (p := ⟨B, i, none⟩) hBl2 (by simpa using hBS)).trans (dz i)
      have hlast : Hid (w3.heap[S]? = some (.cells ((splice (settleL st (q.take k)) (sec * 32) (t.data.toList.take 0)).map byteCell).toArray 5)) := by
        unfold Hid
        rw [HS3.out, byteVals, splice_map]
      clear d0 d1 d2 d3 e0 e1 e2 dz HS3 u2 hu1 hz1 hz2 hz3 hu3
      go_wp2
      go_end0
      exact ⟨rfl, w3, rfl, hu, hlast.out⟩
    · go_enter Try.func16, Try.ntmps16
      go_wp2_with fail
      refine ((HH.out w c0 hBS hgS HS.out HST.out HP.out HPS).mono ?_)
      rintro e w1 ⟨rfl, hS1, hu1⟩
      have HS1 := Lib.hid hS1
      have hz1 := hu1.size
      have b0 := hu1.cell c0 (by simpa using hBS)
      have b1 := hu1.cell c1 (by simpa using hBS)
      have b2 := hu1.cell c2 (by simpa using hBS)
      have b3 := hu1.cell c3 (by simpa using hBS)
      have bz : ∀ i, w1.frozen? ⟨B, i, none⟩ = false := fun i => (hu1.frozen (p := ⟨B, i, none⟩) hBl (by simpa using hBS)).trans (hfz i)
      have q0 := hu1.cell HC0.out (by simpa using hgS)
      have q1 := hu1.cell HC1.out (by simpa using hgS)
      have q2 := hu1.cell HC2.out (by simpa using hgS)
      have hBl1 : B < w1.heap.size := by omega
      have hgl1 : g < w1.heap.size := by omega
      clear c0 c1 c2 c3 hfz hS1 hsl
      go_wp2
      refine region_tail 13 (by kernel_rfl) (by kernel_rfl) ?_
      intro w2 H1
      have d0 := drew_cell H1 (p := ⟨B, 0, none⟩) (by rw [World.cell?_alloc_lt _ _ _ hBl1]; exact b0)
      have d1 := drew_cell H1 (p := ⟨B, 1, none⟩) (by rw [World.cell?_alloc_lt _ _ _ hBl1]; exact b1)
      have d2 := drew_cell H1 (p := ⟨B, 2, none⟩) (by rw [World.cell?_alloc_lt _ _ _ hBl1]; exact b2)
      have d3 := drew_cell H1 (p := ⟨B, 3, none⟩) (by rw [World.cell?_alloc_lt _ _ _ hBl1]; exact b3)
      have e0 := drew_cell H1 (p := ⟨w1.heap.size, 0, none⟩) (by rw [World.cell?_alloc_new]; rfl)
      have e1 := drew_cell H1 (p := ⟨w1.heap.size, 1, none⟩) (by rw [World.cell?_alloc_new]; rfl)
      have e2 := drew_cell H1 (p := ⟨w1.heap.size, 2, none⟩) (by rw [World.cell?_alloc_new]; rfl)
      have u2 : Upd [] w1 w2 := ((Upd.refl [] w1).alloc _).trans (drew_upd H1 [])
      have dz : ∀ i, w2.frozen? ⟨B, i, none⟩ = false := fun i => (u2.frozen (p := ⟨B, i, none⟩) hBl1 (by simp)).trans (bz i)
      have hz2 := u2.size
      have hBl2 : B < w2.heap.size := by omega
      clear b0 b1 b2 b3 q0 q1 q2 bz
      have hsl2 := run_slice_part S (n * 32) (↑sec * 32) (↑sec * 32 + ↑c) (sec * 32) (c) (by omega) (by omega) (by omega) (by omega)
      simp only [List.take_succ_cons, List.take_zero, List.drop_succ_cons, List.drop_zero]
      repeat still_step
      refine wpStill_nil ?_
      clear hsl2
      refine wpList_copy_str rfl (.tmp 65) (.tmp 67) 49 9 rfl 5 Try.underlying49 info5 S (sec * 32) (c) (n * 32 - sec * 32) t rfl rfl ((settleL st (q.take k)).map byteCell) 5 c (by rw [HTS.out]; exact Nat.min_eq_right (by omega)) ?_ ?_ ?_
      · unfold Hid
        rw [u2.block S (Nat.lt_of_lt_of_le (Array.getElem?_eq_some_iff.1 HS.out).1 hz1) (by simp)]
        exact HS1.out
      · rw [List.length_map, settle_len st _ n HST.out HP.out]
        omega
      intro w3 HS3 hu3 hz3
      have hu : Upd [S] w w3 := (hu1.trans (u2.mono (by simp))).trans hu3
      have f1 := hu3.cell d1 (by simpa using hBS)
      have f2 := hu3.cell d2 (by simpa using hBS)
      have f3 := hu3.cell d3 (by simpa using hBS)
      have fz : ∀ i, w3.frozen? ⟨B, i, none⟩ = false := fun i => (hu3.frozen (p := ⟨B, i, none⟩) hBl2 (by simpa using hBS)).trans (dz i)
      have hlast : Hid (w3.heap[S]? = some (.cells ((splice (settleL st (q.take k)) (sec * 32) (t.data.toList.take c)).map byteCell).toArray 5)) := by
        unfold Hid
        rw [HS3.out, byteVals, splice_map]
      clear d0 d1 d2 d3 e0 e1 e2 dz HS3 u2 hu1 hz1 hz2 hz3 hu3
      go_wp2
      go_end0
      exact ⟨rfl, w3, rfl, hu, hlast.out⟩
    · go_enter Try.func16, Try.ntmps16
      go_wp2_with fail
      refine ((HH.out w c0 hBS hgS HS.out HST.out HP.out HPS).mono ?_)
      rintro e w1 ⟨rfl, hS1, hu1⟩
      have HS1 := Lib.hid hS1
      have hz1 := hu1.size
      have b0 := hu1.cell c0 (by simpa using hBS)
      have b1 := hu1.cell c1 (by simpa using hBS)
      have b2 := hu1.cell c2 (by simpa using hBS)
      have b3 := hu1.cell c3 (by simpa using hBS)
      have bz : ∀ i, w1.frozen? ⟨B, i, none⟩ = false := fun i => (hu1.frozen (p := ⟨B, i, none⟩) hBl (by simpa using hBS)).trans (hfz i)
      have q0 := hu1.cell HC0.out (by simpa using hgS)
      have q1 := hu1.cell HC1.out (by simpa using hgS)
      have q2 := hu1.cell HC2.out (by simpa using hgS)
      have hBl1 : B < w1.heap.size := by omega
      have hgl1 : g < w1.heap.size := by omega
      clear c0 c1 c2 c3 hfz hS1 hsl
      go_wp2
      refine region_tail 13 (by kernel_rfl) (by kernel_rfl) ?_
      intro w2 H1
      have d0 := drew_cell H1 (p := ⟨B, 0, none⟩) (by rw [World.cell?_alloc_lt _ _ _ hBl1]; exact b0)
      have d1 := drew_cell H1 (p := ⟨B, 1, none⟩) (by rw [World.cell?_alloc_lt _ _ _ hBl1]; exact b1)
      have d2 := drew_cell H1 (p := ⟨B, 2, none⟩) (by rw [World.cell?_alloc_lt _ _ _ hBl1]; exact b2)
      have d3 := drew_cell H1 (p := ⟨B, 3, none⟩) (by rw [World.cell?_alloc_lt _ _ _ hBl1]; exact b3)
      have e0 := drew_cell H1 (p := ⟨w1.heap.size, 0, none⟩) (by rw [World.cell?_alloc_new]; rfl)
      have e1 := drew_cell H1 (p := ⟨w1.heap.size, 1, none⟩) (by rw [World.cell?_alloc_new]; rfl)
      have e2 := drew_cell H1 (p := ⟨w1.heap.size, 2, none⟩) (by rw [World.cell?_alloc_new]; rfl)
      have u2 : Upd [] w1 w2 := ((Upd.refl [] w1).alloc _).trans (drew_upd H1 [])
      have dz : ∀ i, w2.frozen? ⟨B, i, none⟩ = false := fun i => (u2.frozen (p := ⟨B, i, none⟩) hBl1 (by simp)).trans (bz i)
      have hz2 := u2.size
      have hBl2 : B < w2.heap.size := by omega
      clear b0 b1 b2 b3 q0 q1 q2 bz
      have hsl2 := run_slice_part S (n * 32) (↑sec * 32) (↑sec * 32 + 32) (sec * 32) (32) (by omega) (by omega) (by omega) (by omega)
      simp only [List.take_succ_cons, List.take_zero, List.drop_succ_cons, List.drop_zero]
      repeat still_step
      refine wpStill_nil ?_
      clear hsl2
      refine wpList_copy_str rfl (.tmp 65) (.tmp 67) 49 9 rfl 5 Try.underlying49 info5 S (sec * 32) (32) (n * 32 - sec * 32) t rfl rfl ((settleL st (q.take k)).map byteCell) 5 32 (by rw [HTS.out]; exact Nat.min_eq_right (by omega)) ?_ ?_ ?_
      · unfold Hid
        rw [u2.block S (Nat.lt_of_lt_of_le (Array.getElem?_eq_some_iff.1 HS.out).1 hz1) (by simp)]
        exact HS1.out
      · rw [List.length_map, settle_len st _ n HST.out HP.out]
        omega
      intro w3 HS3 hu3 hz3
      have hu : Upd [S] w w3 := (hu1.trans (u2.mono (by simp))).trans hu3
      have f1 := hu3.cell d1 (by simpa using hBS)
      have f2 := hu3.cell d2 (by simpa using hBS)
      have f3 := hu3.cell d3 (by simpa using hBS)
      have fz : ∀ i, w3.frozen? ⟨B, i, none⟩ = false := fun i => (hu3.frozen (p := ⟨B, i, none⟩) hBl2 (by simpa using hBS)).trans (dz i)
      have hlast : Hid (w3.heap[S]? = some (.cells ((splice (settleL st (q.take k)) (sec * 32) (t.data.toList.take 32)).map byteCell).toArray 5)) := by
        unfold Hid
        rw [HS3.out, byteVals, splice_map]
      clear d0 d1 d2 d3 e0 e1 e2 dz HS3 u2 hu1 hz1 hz2 hz3 hu3
      go_wp2
      go_end0
      exact ⟨rfl, w3, rfl, hu, hlast.out⟩

set_option maxHeartbeats 1000000 in
theorem fail_all {w : World} {B S g : Nat} (n cap : Nat) (st : List UInt8) (q : List (Nat × ByteArray)) (av : Value) (m : Nat) (b : Int)
    (hn : n ≤ 4000) (hq : q.length ≤ 1000000) (hcap : q.length ≤ cap) (hk : q.length ≤ m)
    (c0 : w.cell? ⟨B, 0, none⟩ = some (.slice (some ⟨S, 0, none⟩) (n * 32) (n * 32)))
    (c1 : w.cell? ⟨B, 1, none⟩ = some (.slice (some ⟨g, 0, none⟩) q.length cap)) (c2 : w.cell? ⟨B, 2, none⟩ = some (.bool false)) (c3 : w.cell? ⟨B, 3, none⟩ = some av) (hfz : ∀ i, w.frozen? ⟨B, i, none⟩ = false)
    (hBS : B ≠ S) (hgS : g ≠ S)
    (hS : w.heap[S]? = some (.cells (st.map byteCell).toArray 5)) (hst : st.length = n * 32) (hp : ∀ p ∈ q, p.1 < n ∧ p.2.size = 32) (hps : PendsAt w g q) :
    Calls Try.prog 16 #[.pointer (some ⟨B, 0, none⟩), .int .i64 m, .int .i64 b] w fun e w' => e = .returned (.tuple #[]) ∧ ∃ w1,
      w' = ((w1.setCell ⟨B, 1, none⟩ (.slice none 0 0)).setCell ⟨B, 2, none⟩ (.bool true)).setCell ⟨B, 3, none⟩ (.pointer none) ∧ Upd [S] w w1 ∧
      w1.heap[S]? = some (.cells ((settleL st q).map byteCell).toArray 5) := by
  have HH := Lib.hid (settle_some w B S g n cap st q hn hq c0 hBS hgS hS hst hp hps)
  have hsl := run_slice_pre g q.length cap q.length q.length rfl (by omega)
  have hBl : B < w.heap.size := World.block_lt_of_cell? _ _ c0
  clear hS hst hp hps
  by_cases he : q.length = m
  · subst he
    go_enter Try.func16, Try.ntmps16
    go_wp2_with fail
    refine HH.out.mono ?_
    rintro e w1 ⟨rfl, hS1, hu1⟩
    have HS1 := Lib.hid hS1
    have hz1 := hu1.size
    have b1 := hu1.cell c1 (by simpa using hBS)
    have b2 := hu1.cell c2 (by simpa using hBS)
    have b3 := hu1.cell c3 (by simpa using hBS)
    have bz : ∀ i, w1.frozen? ⟨B, i, none⟩ = false := fun i => (hu1.frozen (p := ⟨B, i, none⟩) hBl (by simpa using hBS)).trans (hfz i)
    clear c0 c1 c2 c3 hfz hS1 hsl
    go_wp2
    go_end0
    exact ⟨rfl, w1, rfl, hu1, HS1.out⟩
  · have hlt : q.length < m := by omega
    clear he
    go_enter Try.func16, Try.ntmps16
    go_wp2_with fail
    refine HH.out.mono ?_
    rintro e w1 ⟨rfl, hS1, hu1⟩
    have HS1 := Lib.hid hS1
    have hz1 := hu1.size
    have b1 := hu1.cell c1 (by simpa using hBS)
    have b2 := hu1.cell c2 (by simpa using hBS)
    have b3 := hu1.cell c3 (by simpa using hBS)
    have bz : ∀ i, w1.frozen? ⟨B, i, none⟩ = false := fun i => (hu1.frozen (p := ⟨B, i, none⟩) hBl (by simpa using hBS)).trans (hfz i)
    clear c0 c1 c2 c3 hfz hS1 hsl
    go_wp2
    go_end0
    exact ⟨rfl, w1, rfl, hu1, HS1.out⟩

end Go.Proofs.Ytcihncgajkogkaa
