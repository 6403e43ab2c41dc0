/- count, Sync, Write. -/
import Derived.Test.YtcihncgajkogkaaOps2
import Derived.Deep.RegionLaw
namespace Go.Proofs.Ytcihncgajkogkaa
open Go.RowKit

theorem alarm_cells {w : World} {A : Nat} {a : Int × Int × Int} (h : w.heap[A]? = some (alarmObj a)) :
    w.cell? ⟨A, 0, none⟩ = some (.int .i64 a.1) ∧ w.cell? ⟨A, 1, none⟩ = some (.int .i64 a.2.1) ∧ w.cell? ⟨A, 2, none⟩ = some (.int .i64 a.2.2) ∧ ∀ i, w.frozen? ⟨A, i, none⟩ = false := by
  refine ⟨?_, ?_, ?_, ?_⟩
  · rw [cell_of_row w _ 0 _ 62 (0, 0) h]; rfl
  · rw [cell_of_row w _ 1 _ 62 (0, 0) h]; rfl
  · rw [cell_of_row w _ 2 _ 62 (0, 0) h]; rfl
  · intro i; simp [World.frozen?, h, alarmObj]

theorem Foot.a_ne {f : Foot} {A : Nat} (h : f.list.Nodup) (hA : f.A = some A) : f.B ≠ A ∧ f.S ≠ A ∧ f.Q ≠ some A := by
  rw [Foot.list, hA] at h
  simp only [Option.toList_some, List.nodup_cons, List.mem_cons, List.mem_append, List.nodup_append] at h
  refine ⟨fun e => h.1 (by simp [e]), fun e => h.2.1 (by simp [e]), fun e => ?_⟩
  have := h.2.2.2.2 A (by simp [e]) A (by simp)
  exact this rfl

theorem count_any {w : World} {base : Nat} {f : Foot} {s : DS} (h : DiskAt w base f s) (hql : s.q.length ≤ 1000000) :
    Calls Try.prog 22 #[.pointer (some ⟨f.B, 0, none⟩)] w fun e w' => e = .returned (.int .i64 s.count.2) ∧ ∃ f', DiskAt w' base f' s.count.1 ∧ Turn f f' w w' := by
  obtain ⟨qv, av, c0, c1, c2, c3, hfz, h1, h2, h3, h4, h0, h5⟩ := h.cells
  cases ha : s.armed with
  | none =>
    rw [ha] at h5
    rw [h5.1] at c3
    have hc : s.count = (s, 0) := by unfold DS.count; rw [ha]
    rw [hc]
    refine (count_none c3).mono fun e w' hh => ⟨hh.1, f, ?_, ?_⟩
    · rw [← hh.2]; exact h
    · rw [← hh.2]; exact .same (Upd.refl _ _)
  | some x =>
    obtain ⟨a, wr, b⟩ := x
    rw [ha] at h5
    obtain ⟨A, hav, hA, hob⟩ := h5
    rw [hav] at c3
    obtain ⟨a0, a1, a2, az⟩ := alarm_cells hob
    have hb := h.wf.a _ ha
    have hne := Foot.a_ne h.nodup hA
    by_cases hp : 0 < a
    · have hc : s.count = ({ s with armed := some (a - 1, wr, b) }, 0) := by unfold DS.count; rw [ha]; simp only [if_pos hp]
      rw [hc]
      refine (count_dec a wr b hp hb.2 c3 a0 az).mono fun e w' hh => ⟨hh.1, f, ?_, ?_⟩
      · obtain ⟨-, rfl⟩ := hh
        refine ⟨⟨h.wf.n0, h.wf.n1, h.wf.len, h.wf.q, ?_⟩, h.nodup, h.ge, qv, av, ?_, ?_, ?_, h4, h0, A, hav, hA, ?_⟩
        · intro y hy
          obtain rfl : (a - 1, wr, b) = y := by simpa using hy
          have := hb.2
          exact ⟨by simp only; omega, by simp only at this ⊢; omega⟩
        · rw [Below.heap_setCell _ _ _ _ hne.1]; exact h1
        · rw [Below.heap_setCell _ _ _ _ hne.2.1]; exact h2
        · refine ownsRow_upd h3 fun k hk => ?_
          rw [Below.heap_setCell _ _ _ _ (fun e => hne.2.2 (by rw [h4, hk, e]))]
        · exact heap_setCell_self hob
      · rw [hh.2]
        have hm : A ∈ f.list := by simp [Foot.list, hA]
        exact ⟨(Upd.refl _ _).setCell (.inl hm) _, fun k hk => .inl hk, rfl⟩
    · have ha0 : a = 0 := by have := hb.1; simp only at this; omega
      have hc : s.count = (s.fail wr b, 21) := by unfold DS.count; rw [ha]; simp only [if_neg hp]
      rw [hc]
      exact count_fail h hql A a wr b ha0 c3 a0 a1 a2

/-! ### Sync -/
def DS.sync (s : DS) : DS × Int :=
  if s.off then (s, 21) else if s.count.2 ≠ 0 then s.count else ({ s.count.1 with st := settleL s.count.1.st s.count.1.q, q := [] }, 0)

theorem count_e (s : DS) : s.count.2 = 0 ∨ s.count.2 = 21 := by
  unfold DS.count
  split
  · exact .inl rfl
  · split
    · exact .inl rfl
    · exact .inr rfl

set_option maxHeartbeats 400000 in
theorem sync_off {w : World} {B : Nat} (c2 : w.cell? ⟨B, 2, none⟩ = some (.bool true)) :
    Calls Try.prog 12 #[.pointer (some ⟨B, 0, none⟩)] w fun e w' => e = .returned (.int .i64 21) ∧ w = w' := by
  go_enter Try.func12, Try.ntmps12
  go_wp2
  go_ret
  exact ⟨rfl, rfl⟩

set_option maxHeartbeats 400000 in
theorem sync_bad {w : World} {base : Nat} {f : Foot} {s : DS} (h : DiskAt w base f s) (hql : s.q.length ≤ 1000000) (ho : s.off = false) (he : s.count.2 = 21) :
    Calls Try.prog 12 #[.pointer (some ⟨f.B, 0, none⟩)] w fun e w' => e = .returned (.int .i64 21) ∧ ∃ f', DiskAt w' base f' s.count.1 ∧ Turn f f' w w' := by
  obtain ⟨qv, av, c0, c1, c2, c3, hfz, _⟩ := h.cells
  rw [ho] at c2
  have HC := count_any h hql
  rw [he] at HC
  have HC' := Lib.hid HC
  clear HC c0 c1 c3 h he
  go_enter Try.func12, Try.ntmps12
  go_wp2_with fail
  refine HC'.out.mono ?_
  rintro e w' ⟨rfl, hd⟩
  have HD := Lib.hid hd
  clear hd
  go_wp2
  go_ret
  exact ⟨rfl, HD.out⟩

/-- The settled queue is let go. -/
theorem sync_after {w w1 w' : World} {base : Nat} {f : Foot} {s : DS} (h : DiskAt w base f s) (hf : w' = w1.setCell ⟨f.B, 1, none⟩ (.slice none 0 0))
    (hu : Upd [f.S] w w1) (st : List UInt8) (hS : w1.heap[f.S]? = some (.cells (st.map byteCell).toArray 5)) (hl : st.length = s.n * 32) :
    ∃ f', DiskAt w' base f' { s with st := st, q := [] } ∧ Turn f f' w w' := by
  obtain ⟨qv, av, h1, h2, h3, h4, h0, h5⟩ := h.ex
  have hBS := Foot.two h.nodup
  have hlt := h.B_lt
  have hB1 : w1.heap[f.B]? = some (diskObj s.n f.S qv s.off av) := by rw [hu.block f.B hlt (by simpa using hBS)]; exact h1
  have hsub : List.Sublist (⟨f.B, f.S, none, f.A⟩ : Foot).list f.list := by
    simp only [Foot.list, Option.toList_none, List.nil_append]
    exact .cons_cons _ (.cons_cons _ (List.sublist_append_right _ _))
  refine ⟨⟨f.B, f.S, none, f.A⟩, ⟨⟨h.wf.n0, h.wf.n1, hl, by simp, h.wf.a⟩, hsub.nodup h.nodup, fun k hk => h.ge k (hsub.subset hk), .slice none 0 0, av, ?_, ?_, World.ownsRow_nil _ _ _ _, rfl, fun _ => rfl, ?_⟩, ?_, fun k hk => .inl (hsub.subset hk), rfl⟩
  · rw [hf]; exact set1 hB1
  · rw [hf, Below.heap_setCell _ _ _ _ hBS.symm]; exact hS
  · cases ha : s.armed with
    | none => rw [ha] at h5; exact h5
    | some a =>
      rw [ha] at h5
      obtain ⟨A, h6, hA, h7⟩ := h5
      have hne := Foot.a_ne h.nodup hA
      exact ⟨A, h6, hA, by rw [hf, Below.heap_setCell _ _ _ _ hne.1.symm, hu.block A (Array.getElem?_eq_some_iff.1 h7).1 (by simpa using hne.2.1.symm)]; exact h7⟩
  · rw [hf]
    have hu2 : Upd f.list w w1 := hu.mono (by simp [Foot.list])
    exact hu2.setCell (.inl (by simp [Foot.list])) _

set_option maxHeartbeats 400000 in
theorem sync_good {w : World} {base : Nat} {f : Foot} {s : DS} (h : DiskAt w base f s) (hql : s.q.length ≤ 1000000) (ho : s.off = false) (he : s.count.2 = 0) (hql1 : s.count.1.q.length ≤ 1000000) :
    Calls Try.prog 12 #[.pointer (some ⟨f.B, 0, none⟩)] w fun e w' => e = .returned (.int .i64 0) ∧ ∃ f', DiskAt w' base f' { s.count.1 with st := settleL s.count.1.st s.count.1.q, q := [] } ∧ Turn f f' w w' := by
  obtain ⟨qv, av, c0, c1, c2, c3, hfz, _⟩ := h.cells
  rw [ho] at c2
  have HC := count_any h hql
  rw [he] at HC
  obtain ⟨s1, hs1⟩ : ∃ s1, s1 = s.count.1 := ⟨_, rfl⟩
  rw [← hs1] at HC hql1 ⊢
  have HC' := Lib.hid HC
  clear HC c0 c1 c3 h he hs1
  go_enter Try.func12, Try.ntmps12
  go_wp2_with fail
  refine HC'.out.mono ?_
  rintro e w1 ⟨rfl, f1, hd, ht⟩
  have HT := Lib.hid ht
  have HD := Lib.hid hd
  clear ht c2 hfz
  obtain ⟨qv, av, c0, c1, c2, c3, hfz, h1, h2, h3, h4, h0, h5⟩ := hd.cells
  have hB := HT.out.B
  rw [hB] at c0 c1 hfz
  have hBS := Foot.two hd.nodup
  rw [hB] at hBS
  have h3' := h3
  have hlen := settle_len _ _ _ hd.wf.len hd.wf.q
  have hn1 := hd.wf.n1
  have hBl := hd.B_lt
  rw [hB] at hBl
  obtain ⟨h3a, h3b⟩ := h3
  rcases h3b with ⟨rfl, hn⟩ | ⟨g, cap, cur, rfl, hb, hg, hn, hc, hs, hh⟩
  · have hq0 : s1.q = [] := List.eq_nil_of_length_eq_zero hn
    have HFin : Hid (∃ f', DiskAt (w1.setCell ⟨f.B, 1, none⟩ (.slice none 0 0)) base f' { s1 with st := settleL s1.st s1.q, q := [] } ∧ Turn f f' w (w1.setCell ⟨f.B, 1, none⟩ (.slice none 0 0))) := by
      obtain ⟨f', x, y⟩ := sync_after hd (w1 := w1) (w' := w1.setCell ⟨f.B, 1, none⟩ (.slice none 0 0)) (by rw [hB]) (Upd.refl _ _) (settleL s1.st s1.q) (by rw [hq0]; exact h2) hlen
      exact ⟨f', x, HT.out.trans y⟩
    clear hd h1 h2 h3' h4 h0 h5 h3a hn hq0 hlen hBS c3 c2 c0
    go_wp2_with (go_at_call 23; refine (settle_nil _ _).mono ?_; rintro e w' ⟨rfl, rfl⟩)
    go_ret
    exact ⟨rfl, HFin.out⟩
  · have hgne := Foot.q_ne hd.nodup (g := g) (by rw [h4]; rfl)
    have hps := pendsAt_of h3'
    have HS := Lib.hid (settle_some w1 f.B f1.S g s1.n cap s1.st s1.q hn1 hql1 c0 hBS hgne.2.symm h2 hd.wf.len hd.wf.q hps)
    have HFin : Hid (∀ w2, w2.heap[f1.S]? = some (.cells ((settleL s1.st s1.q).map byteCell).toArray 5) → Upd [f1.S] w1 w2 → ∃ f', DiskAt (w2.setCell ⟨f.B, 1, none⟩ (.slice none 0 0)) base f' { s1 with st := settleL s1.st s1.q, q := [] } ∧ Turn f f' w (w2.setCell ⟨f.B, 1, none⟩ (.slice none 0 0))) := by
      intro w2 e1 e2
      obtain ⟨f', x, y⟩ := sync_after hd (w1 := w2) (w' := w2.setCell ⟨f.B, 1, none⟩ (.slice none 0 0)) (by rw [hB]) e2 (settleL s1.st s1.q) e1 hlen
      exact ⟨f', x, HT.out.trans y⟩
    clear hd h1 h2 h3' h4 h0 h5 h3a hn hlen c3 c2 c0 hps hg hs hh
    go_wp2_with fail
    refine HS.out.mono ?_
    rintro e w2 ⟨rfl, hS2, hu2⟩
    have d1 := hu2.cell c1 (by simpa using hBS)
    have dz : ∀ i, w2.frozen? ⟨f.B, i, none⟩ = false := fun i => (hu2.frozen (p := ⟨f.B, i, none⟩) hBl (by simpa using hBS)).trans (hfz i)
    have HF2 := Lib.hid (HFin.out w2 hS2 hu2)
    clear c1 hfz hS2 hu2
    go_wp2
    go_ret
    exact ⟨rfl, HF2.out⟩

theorem count_q (s : DS) : s.count.1.q.length ≤ s.q.length := by
  unfold DS.count
  split
  · exact Nat.le_refl _
  · split
    · exact Nat.le_refl _
    · unfold DS.fail; split <;> simp

theorem sync_any {w : World} {base : Nat} {f : Foot} {s : DS} (h : DiskAt w base f s) (hql : s.q.length ≤ 1000000) :
    Calls Try.prog 12 #[.pointer (some ⟨f.B, 0, none⟩)] w fun e w' => e = .returned (.int .i64 s.sync.2) ∧ ∃ f', DiskAt w' base f' s.sync.1 ∧ Turn f f' w w' := by
  by_cases ho : s.off = true
  · obtain ⟨qv, av, c0, c1, c2, c3, hfz, _⟩ := h.cells
    rw [ho] at c2
    have : s.sync = (s, 21) := by unfold DS.sync; rw [if_pos ho]
    rw [this]
    refine (sync_off c2).mono fun e w' hh => ⟨hh.1, f, ?_, ?_⟩
    · rw [← hh.2]; exact h
    · rw [← hh.2]; exact .same (Upd.refl _ _)
  · have ho' : s.off = false := by simpa using ho
    rcases count_e s with he | he
    · have : s.sync = ({ s.count.1 with st := settleL s.count.1.st s.count.1.q, q := [] }, 0) := by unfold DS.sync; rw [if_neg ho, if_neg (by simp [he])]
      rw [this]
      exact sync_good h hql ho' he (Nat.le_trans (count_q s) hql)
    · have : s.sync = s.count := by unfold DS.sync; rw [if_neg ho, if_pos (by simp [he])]
      rw [this, he]
      exact sync_bad h hql ho' he

end Go.Proofs.Ytcihncgajkogkaa
