/- Start, Arm, count. -/
import Derived.Test.YtcihncgajkogkaaOps
namespace Go.Proofs.Ytcihncgajkogkaa
open Go.RowKit

/-! ### Start -/
def DS.start (s : DS) : DS := { s with off := false, armed := none }

set_option maxHeartbeats 400000 in
theorem start_walk {w : World} {B : Nat} (ov av : Value) (c2 : w.cell? ⟨B, 2, none⟩ = some ov) (c3 : w.cell? ⟨B, 3, none⟩ = some av) (hfz : ∀ i, w.frozen? ⟨B, i, none⟩ = false) :
    Calls Try.prog 11 #[.pointer (some ⟨B, 0, none⟩)] w fun e w' => e = .returned (.tuple #[]) ∧ w' = (w.setCell ⟨B, 2, none⟩ (.bool false)).setCell ⟨B, 3, none⟩ (.pointer none) := by
  go_enter Try.func11, Try.ntmps11
  go_wp2
  go_end0
  exact ⟨rfl, rfl⟩

theorem foot_q {f : Foot} (h : f.list.Nodup) : (⟨f.B, f.S, f.Q, none⟩ : Foot).list.Nodup := by
  have hs : List.Sublist (⟨f.B, f.S, f.Q, none⟩ : Foot).list f.list := by
    simp only [Foot.list, Option.toList_none, List.append_nil]
    exact .cons_cons _ (.cons_cons _ (List.sublist_append_left _ _))
  exact hs.nodup h
theorem foot_q_sub {f : Foot} : ∀ k ∈ (⟨f.B, f.S, f.Q, none⟩ : Foot).list, k ∈ f.list := by
  intro k hk
  simp [Foot.list] at hk ⊢
  rcases hk with h | h | h <;> simp [h]

theorem start_any {w : World} {base : Nat} {f : Foot} {s : DS} (h : DiskAt w base f s) :
    Calls Try.prog 11 #[.pointer (some ⟨f.B, 0, none⟩)] w fun e w' => e = .returned (.tuple #[]) ∧ ∃ f', DiskAt w' base f' s.start ∧ Turn f f' w w' := by
  obtain ⟨qv, av, c0, c1, c2, c3, hfz, h1, h2, h3, h4, h0, h5⟩ := h.cells
  have hBS := Foot.two h.nodup
  refine (start_walk _ _ c2 c3 hfz).mono fun e w' hh => ⟨hh.1, ⟨f.B, f.S, f.Q, none⟩, ?_, ?_, fun k hk => .inl (foot_q_sub k hk), rfl⟩
  · obtain ⟨-, rfl⟩ := hh
    refine ⟨⟨h.wf.n0, h.wf.n1, h.wf.len, h.wf.q, by simp [DS.start]⟩, foot_q h.nodup, fun k hk => h.ge k (foot_q_sub k hk), qv, .pointer none, set3 (set2 h1), ?_, ?_, h4, h0, rfl, rfl⟩
    · rw [Below.heap_setCell _ _ _ _ hBS.symm, Below.heap_setCell _ _ _ _ hBS.symm]; exact h2
    · refine ownsRow_upd h3 fun k hk => ?_
      have := (Foot.q_ne h.nodup (g := k) (by rw [h4, hk])).1
      rw [Below.heap_setCell _ _ _ _ this.symm, Below.heap_setCell _ _ _ _ this.symm]
  · rw [hh.2]
    exact ((Upd.refl _ _).setCell (.inl (by simp [Foot.list])) _).setCell (.inl (by simp [Foot.list])) _

/-! ### Arm -/
def DS.arm (s : DS) (a wr b : Int) : DS := if s.off then s else { s with armed := if a < 0 then none else some (a, wr, b) }

set_option maxHeartbeats 400000 in
theorem arm_off {w : World} {B : Nat} (a wr b : Int) (c2 : w.cell? ⟨B, 2, none⟩ = some (.bool true)) :
    Calls Try.prog 19 #[.pointer (some ⟨B, 0, none⟩), .int .i64 a, .int .i64 wr, .int .i64 b] w fun e w' => e = .returned (.tuple #[]) ∧ w = w' := by
  go_enter Try.func19, Try.ntmps19
  go_wp2
  first | go_end0 | refine bodyPost_ret (results_none rfl _ _ _) rfl ?_
  exact ⟨rfl, rfl⟩

set_option maxHeartbeats 400000 in
theorem arm_neg {w : World} {B : Nat} (av : Value) (a wr b : Int) (ha : a < 0) (c2 : w.cell? ⟨B, 2, none⟩ = some (.bool false)) (c3 : w.cell? ⟨B, 3, none⟩ = some av) (hfz : ∀ i, w.frozen? ⟨B, i, none⟩ = false) :
    Calls Try.prog 19 #[.pointer (some ⟨B, 0, none⟩), .int .i64 a, .int .i64 wr, .int .i64 b] w fun e w' => e = .returned (.tuple #[]) ∧ w' = w.setCell ⟨B, 3, none⟩ (.pointer none) := by
  go_enter Try.func19, Try.ntmps19
  go_wp2
  go_end0
  exact ⟨rfl, rfl⟩

set_option maxHeartbeats 400000 in
theorem arm_pos {w : World} {B : Nat} (av : Value) (a wr b : Int) (ha : 0 ≤ a) (hlt : B < w.heap.size) (c2 : w.cell? ⟨B, 2, none⟩ = some (.bool false)) (c3 : w.cell? ⟨B, 3, none⟩ = some av) (hfz : ∀ i, w.frozen? ⟨B, i, none⟩ = false) :
    Calls Try.prog 19 #[.pointer (some ⟨B, 0, none⟩), .int .i64 a, .int .i64 wr, .int .i64 b] w fun e w' => e = .returned (.tuple #[]) ∧
      w' = ((w.setCell ⟨B, 3, none⟩ (.pointer none)).setCell ⟨B, 3, none⟩ (.pointer (some ⟨w.heap.size, 0, none⟩))).alloc (alarmObj (a, wr, b)) := by
  go_enter Try.func19, Try.ntmps19
  go_wp2
  go_end0
  exact ⟨rfl, rfl⟩

theorem foot_new {w : World} {f : Foot} (h : f.list.Nodup) (hlt : ∀ k ∈ f.list, k < w.heap.size) : (⟨f.B, f.S, f.Q, some w.heap.size⟩ : Foot).list.Nodup := by
  have h1 := foot_q h
  have e : (⟨f.B, f.S, f.Q, some w.heap.size⟩ : Foot).list = (⟨f.B, f.S, f.Q, none⟩ : Foot).list ++ [w.heap.size] := by simp [Foot.list]
  rw [e]
  refine List.nodup_append.2 ⟨h1, by simp, fun a ha b hb => ?_⟩
  obtain rfl : b = w.heap.size := by simpa using hb
  have := hlt a (foot_q_sub a ha)
  omega

theorem arm_any {w : World} {base : Nat} {f : Foot} {s : DS} (h : DiskAt w base f s) (a wr b : Int) (hbase : base ≤ w.heap.size) (ha1 : a ≤ 9223372036854775807) :
    Calls Try.prog 19 #[.pointer (some ⟨f.B, 0, none⟩), .int .i64 a, .int .i64 wr, .int .i64 b] w fun e w' => e = .returned (.tuple #[]) ∧ ∃ f', DiskAt w' base f' (s.arm a wr b) ∧ Turn f f' w w' := by
  obtain ⟨qv, av, c0, c1, c2, c3, hfz, h1, h2, h3, h4, h0, h5⟩ := h.cells
  have hBS := Foot.two h.nodup
  by_cases ho : s.off = true
  · rw [ho] at c2
    refine (arm_off a wr b c2).mono fun e w' hh => ⟨hh.1, f, ?_, ?_⟩
    · rw [← hh.2, DS.arm, if_pos ho]; exact h
    · rw [← hh.2]; exact .same (Upd.refl _ _)
  have ho' : s.off = false := by simpa using ho
  rw [ho'] at c2
  by_cases hneg : a < 0
  · refine (arm_neg av a wr b hneg c2 c3 hfz).mono fun e w' hh => ⟨hh.1, ⟨f.B, f.S, f.Q, none⟩, ?_, ?_, fun k hk => .inl (foot_q_sub k hk), rfl⟩
    · obtain ⟨-, rfl⟩ := hh
      rw [DS.arm, if_neg ho, if_pos hneg]
      refine ⟨⟨h.wf.n0, h.wf.n1, h.wf.len, h.wf.q, by simp⟩, foot_q h.nodup, fun k hk => h.ge k (foot_q_sub k hk), qv, .pointer none, set3 h1, ?_, ?_, h4, h0, rfl, rfl⟩
      · rw [Below.heap_setCell _ _ _ _ hBS.symm]; exact h2
      · refine ownsRow_upd h3 fun k hk => ?_
        have := (Foot.q_ne h.nodup (g := k) (by rw [h4, hk])).1
        rw [Below.heap_setCell _ _ _ _ this.symm]
    · rw [hh.2]
      exact (Upd.refl _ _).setCell (.inl (by simp [Foot.list])) _
  · have hlt := h.lt
    have hB := h.B_lt
    refine (arm_pos av a wr b (by omega) h.B_lt c2 c3 hfz).mono fun e w' hh => ⟨hh.1, ⟨f.B, f.S, f.Q, some w.heap.size⟩, ?_, ?_, ?_, rfl⟩
    · obtain ⟨-, rfl⟩ := hh
      rw [DS.arm, if_neg ho, if_neg hneg]
      have hsz : ((w.setCell ⟨f.B, 3, none⟩ (.pointer none)).setCell ⟨f.B, 3, none⟩ (.pointer (some ⟨w.heap.size, 0, none⟩))).heap.size = w.heap.size := by simp [World.setCell]
      refine ⟨⟨h.wf.n0, h.wf.n1, h.wf.len, h.wf.q, ?_⟩, foot_new h.nodup hlt, ?_, qv, .pointer (some ⟨w.heap.size, 0, none⟩), ?_, ?_, ?_, h4, h0, w.heap.size, rfl, rfl, ?_⟩
      · intro x hx
        obtain rfl : (a, wr, b) = x := by simpa using hx
        exact ⟨by simp only; omega, ha1⟩
      · intro k hk
        simp only [Foot.list, Option.toList_some, List.mem_cons, List.mem_append, List.mem_singleton] at hk
        rcases hk with hk | hk | hk | hk
        · exact h.ge k (by simp [Foot.list, hk])
        · exact h.ge k (by simp [Foot.list, hk])
        · exact h.ge k (by simp only [Foot.list, List.mem_cons, List.mem_append]; exact .inr (.inr (.inl hk)))
        · have : k = w.heap.size := by simpa using hk
          omega
      · rw [Below.heap_alloc _ _ _ (by rw [hsz]; exact hB)]
        exact set3 (set3 h1)
      · rw [Below.heap_alloc _ _ _ (by rw [hsz]; exact hlt _ (by simp [Foot.list])), Below.heap_setCell _ _ _ _ hBS.symm, Below.heap_setCell _ _ _ _ hBS.symm]; exact h2
      · refine ownsRow_upd h3 fun k hk => ?_
        have := (Foot.q_ne h.nodup (g := k) (by rw [h4, hk])).1
        have hk' : k ∈ f.list := by simp only [Foot.list, List.mem_cons, List.mem_append]; exact .inr (.inr (.inl (by rw [h4, hk]; simp)))
        rw [Below.heap_alloc _ _ _ (by rw [hsz]; exact hlt _ hk'), Below.heap_setCell _ _ _ _ this.symm, Below.heap_setCell _ _ _ _ this.symm]
      · have := heap_alloc_new ((w.setCell ⟨f.B, 3, none⟩ (.pointer none)).setCell ⟨f.B, 3, none⟩ (.pointer (some ⟨w.heap.size, 0, none⟩))) (alarmObj (a, wr, b))
        rwa [hsz] at this
    · rw [hh.2]
      exact (((Upd.refl _ _).setCell (.inl (by simp [Foot.list])) _).setCell (.inl (by simp [Foot.list])) _).alloc _
    · intro k hk
      simp only [Foot.list, Option.toList_some, List.mem_cons, List.mem_append, List.mem_singleton] at hk
      rcases hk with hk | hk | hk | hk
      · exact .inl (by simp [Foot.list, hk])
      · exact .inl (by simp [Foot.list, hk])
      · exact .inl (by simp only [Foot.list, List.mem_cons, List.mem_append]; exact .inr (.inr (.inl hk)))
      · exact .inr (by have : k = w.heap.size := by simpa using hk
                       omega)

/-! ### count -/
def DS.count (s : DS) : DS × Int :=
  match s.armed with
  | none => (s, 0)
  | some (a, wr, b) => if 0 < a then ({ s with armed := some (a - 1, wr, b) }, 0) else (s.fail wr b, 21)

set_option maxHeartbeats 400000 in
theorem count_none {w : World} {B : Nat} (c3 : w.cell? ⟨B, 3, none⟩ = some (.pointer none)) :
    Calls Try.prog 22 #[.pointer (some ⟨B, 0, none⟩)] w fun e w' => e = .returned (.int .i64 0) ∧ w = w' := by
  go_enter Try.func22, Try.ntmps22
  go_wp2
  go_ret
  exact ⟨rfl, rfl⟩

set_option maxHeartbeats 400000 in
theorem count_dec {w : World} {B A : Nat} (a wr b : Int) (ha : 0 < a) (ha1 : a ≤ 9223372036854775807) (c3 : w.cell? ⟨B, 3, none⟩ = some (.pointer (some ⟨A, 0, none⟩)))
    (a0 : w.cell? ⟨A, 0, none⟩ = some (.int .i64 a)) (az : ∀ i, w.frozen? ⟨A, i, none⟩ = false) :
    Calls Try.prog 22 #[.pointer (some ⟨B, 0, none⟩)] w fun e w' => e = .returned (.int .i64 0) ∧ w' = w.setCell ⟨A, 0, none⟩ (.int .i64 (a - 1)) := by
  go_enter Try.func22, Try.ntmps22
  go_wp2
  go_ret
  exact ⟨rfl, rfl⟩

set_option maxHeartbeats 400000 in
theorem count_fail {w : World} {base : Nat} {f : Foot} {s : DS} (h : DiskAt w base f s) (hql : s.q.length ≤ 1000000) (A : Nat) (a wr b : Int) (ha : a = 0)
    (c3 : w.cell? ⟨f.B, 3, none⟩ = some (.pointer (some ⟨A, 0, none⟩)))
    (a0 : w.cell? ⟨A, 0, none⟩ = some (.int .i64 a)) (a1 : w.cell? ⟨A, 1, none⟩ = some (.int .i64 wr)) (a2 : w.cell? ⟨A, 2, none⟩ = some (.int .i64 b)) :
    Calls Try.prog 22 #[.pointer (some ⟨f.B, 0, none⟩)] w fun e w' => e = .returned (.int .i64 21) ∧ ∃ f', DiskAt w' base f' (s.fail wr b) ∧ Turn f f' w w' := by
  subst ha
  have HF := Lib.hid h
  clear h
  go_enter Try.func22, Try.ntmps22
  go_wp2
  refine region_tail 15 (by kernel_rfl) (by kernel_rfl) ?_
  intro w2 H1
  have d3 := drew_cell H1 c3
  have e0 := drew_cell H1 a0
  have e1 := drew_cell H1 a1
  have e2 := drew_cell H1 a2
  have hu := drew_upd H1 []
  have HF2 := Lib.hid (fail_any (HF.out.upd hu (by simp)) hql wr b)
  clear c3 a0 a1 a2
  simp only [List.take_succ_cons, List.take_zero, List.drop_succ_cons, List.drop_zero]
  repeat still_step
  refine wpStill_nil ?_
  go_wp2_with fail
  refine HF2.out.mono ?_
  rintro e w' ⟨rfl, f', hd, ht⟩
  have HD : Hid (∃ f', DiskAt w' base f' (s.fail wr b) ∧ Turn f f' w w') := ⟨f', hd, (Turn.same hu).trans ht⟩
  clear hd ht
  go_wp2
  go_ret
  exact ⟨rfl, HD.out⟩

end Go.Proofs.Ytcihncgajkogkaa
