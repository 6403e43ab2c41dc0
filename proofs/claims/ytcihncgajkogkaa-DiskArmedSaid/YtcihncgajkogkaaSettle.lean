/- (*Disk).settle: pending writes become stable. -/
import Derived.Test.YtcihncgajkogkaaState
import Derived.StillTailTactics
namespace Go.Proofs.Ytcihncgajkogkaa
open Go.RowKit

def settleL (st : List UInt8) (ps : List (Nat × ByteArray)) : List UInt8 := ps.foldl (fun st p => splice st (p.1 * 32) p.2.data.toList) st

theorem splice_map {α β : Type} (f : α → β) (L : List α) (o : Nat) (cs : List α) : splice (L.map f) o (cs.map f) = (splice L o cs).map f := by
  simp [splice]

theorem settle_len (st : List UInt8) (ps : List (Nat × ByteArray)) (n : Nat) (hst : st.length = n * 32) (hp : ∀ p ∈ ps, p.1 < n ∧ p.2.size = 32) : (settleL st ps).length = n * 32 := by
  induction ps generalizing st with
  | nil => exact hst
  | cons p ps ih =>
    refine ih (splice st (p.1 * 32) p.2.data.toList) ?_ (fun q hq => hp q (by simp [hq]))
    have h1 := hp p (by simp)
    have h2 : p.2.data.toList.length = 32 := by simpa using h1.2
    rw [length_splice _ _ _ (by omega)]
    exact hst

theorem settle_snoc (st : List UInt8) (ps : List (Nat × ByteArray)) (p : Nat × ByteArray) : settleL st (ps ++ [p]) = splice (settleL st ps) (p.1 * 32) p.2.data.toList := by
  simp [settleL, List.foldl_append]

structure PendsAt (w : World) (g : Nat) (ps : List (Nat × ByteArray)) : Prop where
  c0 : ∀ i, (h : i < ps.length) → w.cell? ⟨g, i * 3, none⟩ = some (.int .i64 (ps[i].1 * 32))
  c1 : ∀ i, (h : i < ps.length) → w.cell? ⟨g, i * 3 + 1, none⟩ = some (.int .i64 ((ps[i].1 + 1) * 32))
  c2 : ∀ i, (h : i < ps.length) → w.cell? ⟨g, i * 3 + 2, none⟩ = some (.string ps[i].2)

theorem info5 : (Try.prog.info? 5).map (·.size) = some 1 := by kernel_rfl

theorem size49 (w : World) : (sizeOf (Try.prog.elem 49)).run Try.prog w = .ok 1 w := by kernel_rfl
theorem slice49 : Try.prog.underlying 49 = some (.slice (Try.prog.elem 49)) := by kernel_rfl

theorem run_slice_part (S m : Nat) (l h : Int) (l' d : Nat) (hl : l = l') (hh : h = l' + d) (h2 : l' + d ≤ m) (h3 : l' < m) (wx : World) :
    (Instr.slice 49 (.slice (some ⟨S, 0, none⟩) m m) (some (.int .i64 l)) (some (.int .i64 h)) none).run Try.prog wx = .ok (.slice (some ⟨S, l', none⟩) d (m - l')) wx := by
  subst hl; subst hh
  rw [run_slice_lh wx 49 _ m m slice49 .i64 .i64 _ _ (by omega) (by omega) (by omega), size49]
  have hne : ¬ m = l' := by omega
  have ha : (⟨S, 0, none⟩ : Addr).add l' = ⟨S, l', none⟩ := by unfold Addr.add; split <;> simp_all
  have hd : ((l' : Int) + d).toNat - l' = d := by omega
  simp [Result.andThen, sliced, hne, ha, hd]

theorem run_slice_sec (S n s : Nat) (h : s < n) (wx : World) :
    (Instr.slice 49 (.slice (some ⟨S, 0, none⟩) (n * 32) (n * 32)) (some (.int .i64 (↑s * 32))) (some (.int .i64 ((↑s + 1) * 32))) none).run Try.prog wx = .ok (.slice (some ⟨S, s * 32, none⟩) 32 (n * 32 - s * 32)) wx :=
  run_slice_part S (n * 32) _ _ (s * 32) 32 (by omega) (by omega) (by omega) (by omega) wx

set_option maxHeartbeats 400000 in
theorem settle_some (w : World) (B S g : Nat) (n cap : Nat) (st : List UInt8) (ps : List (Nat × ByteArray)) (_hn : n ≤ 4000) (hm : ps.length ≤ 1000000)
    (hB0 : w.cell? ⟨B, 0, none⟩ = some (.slice (some ⟨S, 0, none⟩) (n * 32) (n * 32))) (hBS : B ≠ S) (hgS : g ≠ S)
    (hS : w.heap[S]? = some (.cells (st.map byteCell).toArray 5)) (hst : st.length = n * 32) (hp : ∀ p ∈ ps, p.1 < n ∧ p.2.size = 32) (hps : PendsAt w g ps) :
    Calls Try.prog 23 #[.pointer (some ⟨B, 0, none⟩), .slice (some ⟨g, 0, none⟩) ps.length cap] w fun e w' => e = .returned (.tuple #[]) ∧
      w'.heap[S]? = some (.cells ((settleL st ps).map byteCell).toArray 5) ∧ Upd [S] w w' := by
  have HS := Lib.hid hS
  have HST := Lib.hid hst
  have hSlt : S < w.heap.size := (Array.getElem?_eq_some_iff.1 hS).1
  clear hS hst
  go_enter Try.func23, Try.ntmps23
  go_wp2
  go_loopw [8] (fun i wr => ∃ k : Nat, k ≤ ps.length ∧ i = .int .i64 k ∧ Hid (wr.heap[S]? = some (.cells ((settleL st (ps.take k)).map byteCell).toArray 5)) ∧ Upd [S] w wr) (fun i _ => ps.length - (intOf i).toNat)
  case atStart => exact ⟨0, Nat.zero_le _, rfl, HS.out, Upd.refl _ _⟩
  case round =>
    obtain ⟨k, hk, rfl, hw, hu⟩ := hrel
    by_cases hlt : k < ps.length
    · obtain ⟨s, t, hst'⟩ : ∃ s t, ps[k] = (s, t) := ⟨_, _, rfl⟩
      have hpk := hp ps[k] (List.getElem_mem hlt)
      have c0 := hu.cell (hps.c0 k hlt) (by simpa using hgS)
      have c1 := hu.cell (hps.c1 k hlt) (by simpa using hgS)
      have c2 := hu.cell (hps.c2 k hlt) (by simpa using hgS)
      have b0 := hu.cell hB0 (by simpa using hBS)
      rw [hst'] at hpk c0 c1 c2
      have HSP := Lib.hid hst'
      have hts := hpk.2
      have hs := hpk.1
      have HTS := Lib.hid hts
      have hgl : g < wr.heap.size := World.block_lt_of_cell? _ _ c0
      have hBl : B < wr.heap.size := World.block_lt_of_cell? _ _ b0
      simp only at c0 c1 c2 hs
      have HP := Lib.hid hp
      clear hst' hpk hp hps hB0 hts
      go_wp2
      refine region_tail 13 (by kernel_rfl) (by kernel_rfl) ?_
      intro w1 H1
      have d0 := drew_cell H1 (p := ⟨B, 0, none⟩) (by rw [World.cell?_alloc_lt _ _ _ hBl]; exact b0)
      have e0 := drew_cell H1 (p := ⟨wr.heap.size, 0, none⟩) (by rw [World.cell?_alloc_new]; rfl)
      have e1 := drew_cell H1 (p := ⟨wr.heap.size, 1, none⟩) (by rw [World.cell?_alloc_new]; rfl)
      have e2 := drew_cell H1 (p := ⟨wr.heap.size, 2, none⟩) (by rw [World.cell?_alloc_new]; rfl)
      clear b0 c0 c1 c2
      simp only [List.take_succ_cons, List.take_zero, List.drop_succ_cons, List.drop_zero]
      have hsl := run_slice_sec S n s hs
      repeat still_step
      refine wpStill_nil ?_
      clear hsl
      refine wpList_copy_str rfl (.tmp 22) (.tmp 24) 49 9 rfl 5 Try.underlying49 info5 S (s * 32) 32 (n * 32 - s * 32) t rfl rfl ((settleL st (ps.take k)).map byteCell) 5 32 (by rw [HTS.out]; rfl) ?_ ?_ ?_
      · unfold Hid
        rw [drew_heap H1, Below.heap_alloc _ _ _ (by have := hu.size; omega)]
        exact hw.out
      · rw [List.length_map, settle_len st _ n HST.out (fun q hq => HP.out q (List.mem_of_mem_take hq))]
        omega
      intro w2 HS2 hu2 hz
      have hu3 : Upd [S] w w2 := (hu.trans (((Upd.refl [S] wr).alloc _).trans (drew_upd H1 [S]))).trans hu2
      have HS3 : Hid (w2.heap[S]? = some (.cells ((settleL st (ps.take (k + 1))).map byteCell).toArray 5)) := by
        unfold Hid
        rw [HS2.out, List.take_succ_eq_append_getElem hlt, settle_snoc, HSP.out, byteVals, splice_map]
        have : t.data.toList.take 32 = t.data.toList := List.take_of_length_le (by have := HTS.out; simpa using Nat.le_of_eq this)
        rw [this]
      clear HS2 hu2 hz d0 e0 e1 e2
      go_wp2
      go_roundw
      case rel => exact ⟨k + 1, by omega, by go_num, HS3, hu3⟩
      case measure => simp [intOf]; omega
    · go_wp2
      go_end0
      have e : k = ps.length := by omega
      have h2 := hw.out
      rw [e, List.take_length] at h2
      exact ⟨rfl, h2, hu⟩

set_option maxHeartbeats 400000 in
theorem settle_nil (w : World) (d : Value) :
    Calls Try.prog 23 #[d, .slice none 0 0] w fun e w' => e = .returned (.tuple #[]) ∧ w = w' := by
  go_enter Try.func23, Try.ntmps23
  go_wp2
  refine wp_loop_rounds 1 ?_; rw [rounds_succ]
  go_wp2
  go_end0
  exact ⟨rfl, rfl⟩

end Go.Proofs.Ytcihncgajkogkaa
