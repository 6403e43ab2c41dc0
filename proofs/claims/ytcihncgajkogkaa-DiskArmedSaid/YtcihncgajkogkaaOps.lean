/- The disk's methods, said of the state. -/
import Derived.Test.YtcihncgajkogkaaFail
namespace Go.Proofs.Ytcihncgajkogkaa
open Go.RowKit

/-- What an operation on a disk does to memory. -/
structure Turn (f f' : Foot) (w w' : World) : Prop where
  upd : Upd f.list w w'
  sub : ∀ k ∈ f'.list, k ∈ f.list ∨ w.heap.size ≤ k
  B : f'.B = f.B

theorem Turn.same {f : Foot} {w w' : World} (h : Upd [] w w') : Turn f f w w' := ⟨h.mono (by simp), fun _ hk => .inl hk, rfl⟩
theorem Turn.trans {f g h : Foot} {a b c : World} (x : Turn f g a b) (y : Turn g h b c) : Turn f h a c :=
  ⟨x.upd.then y.upd x.sub, fun k hk => by
    rcases y.sub k hk with h1 | h1
    · exact x.sub k h1
    · exact .inr (Nat.le_trans x.upd.size h1), y.B.trans x.B⟩

theorem heap_setCell_self {w : World} {B o : Nat} {v : Value} {c : Array Value} {e : TypeId} {fr : Nat × Nat} (h : w.heap[B]? = some (.cells c e fr)) :
    (w.setCell ⟨B, o, none⟩ v).heap[B]? = some (.cells (c.setIfInBounds o v) e fr) := by
  simp only [World.setCell, Array.getElem?_modify, h]
  simp

theorem set1 {w : World} {B n S : Nat} {qv av v : Value} {off : Bool} (h : w.heap[B]? = some (diskObj n S qv off av)) : (w.setCell ⟨B, 1, none⟩ v).heap[B]? = some (diskObj n S v off av) := heap_setCell_self h
theorem set2 {w : World} {B n S : Nat} {qv av : Value} {off b : Bool} (h : w.heap[B]? = some (diskObj n S qv off av)) : (w.setCell ⟨B, 2, none⟩ (.bool b)).heap[B]? = some (diskObj n S qv b av) := heap_setCell_self h
theorem set3 {w : World} {B n S : Nat} {qv av v : Value} {off : Bool} (h : w.heap[B]? = some (diskObj n S qv off av)) : (w.setCell ⟨B, 3, none⟩ v).heap[B]? = some (diskObj n S qv off v) := heap_setCell_self h

theorem Foot.two {f : Foot} (h : f.list.Nodup) : f.B ≠ f.S := by
  intro e
  rw [Foot.list, e] at h
  simp at h

theorem foot_small {f : Foot} (h : f.list.Nodup) : (⟨f.B, f.S, none, none⟩ : Foot).list.Nodup := by
  have := Foot.two h
  simp [Foot.list, this]
theorem foot_small_sub {f : Foot} : ∀ k ∈ (⟨f.B, f.S, none, none⟩ : Foot).list, k ∈ f.list := by
  intro k hk
  simp [Foot.list] at hk ⊢
  rcases hk with h | h <;> simp [h]

/-- Where the queue lies is none of the disk's own two blocks. -/
theorem Foot.q_ne {f : Foot} {g : Nat} (h : f.list.Nodup) (hq : f.Q = some g) : f.B ≠ g ∧ f.S ≠ g := by
  rw [Foot.list, hq] at h
  simp at h
  exact ⟨h.1.2.1, h.2.1.1⟩

theorem failSt_len (s : DS) (hw : s.Wf) (wr b : Int) : (s.failSt wr b).length = s.n * 32 := by
  have h1 : ∀ k, (settleL s.st (s.q.take k)).length = s.n * 32 := fun k => settle_len _ _ _ hw.len fun p hp => hw.q p (List.mem_of_mem_take hp)
  unfold DS.failSt
  simp only
  split
  · rename_i p hp
    have hm := hw.q p (List.mem_of_getElem? hp)
    have h32 : p.2.data.toList.length = 32 := by simpa using hm.2
    rw [length_splice _ _ _ (by rw [h1, List.length_take]; omega)]
    exact h1 _
  · exact h1 _

theorem fail_wf (s : DS) (hw : s.Wf) (wr b : Int) : (s.fail wr b).Wf := by
  unfold DS.fail
  split
  · exact hw
  · exact ⟨hw.n0, hw.n1, failSt_len s hw wr b, by simp, by simp⟩

theorem fail_after {w w1 w' : World} {base : Nat} {f : Foot} {s : DS} (h : DiskAt w base f s) (hf : w' = ((w1.setCell ⟨f.B, 1, none⟩ (.slice none 0 0)).setCell ⟨f.B, 2, none⟩ (.bool true)).setCell ⟨f.B, 3, none⟩ (.pointer none))
    (hu : Upd [f.S] w w1) (st : List UInt8) (hS : w1.heap[f.S]? = some (.cells (st.map byteCell).toArray 5)) (hl : st.length = s.n * 32) :
    ∃ f', DiskAt w' base f' { s with st := st, q := [], off := true, armed := none } ∧ Turn f f' w w' := by
  obtain ⟨qv, av, h1, h2, h3, h4, h0, h5⟩ := h.ex
  have hBS := Foot.two h.nodup
  have hlt := h.B_lt
  have hB1 : w1.heap[f.B]? = some (diskObj s.n f.S qv s.off av) := by rw [hu.block f.B hlt (by simpa using hBS)]; exact h1
  have hu' : Upd f.list w w' := by
    rw [hf]
    have hu2 : Upd f.list w w1 := hu.mono (by simp [Foot.list])
    exact ((hu2.setCell (.inl (by simp [Foot.list])) _).setCell (.inl (by simp [Foot.list])) _).setCell (.inl (by simp [Foot.list])) _
  refine ⟨⟨f.B, f.S, none, none⟩, ⟨⟨h.wf.n0, h.wf.n1, hl, by simp, by simp⟩, foot_small h.nodup, fun k hk => h.ge k (foot_small_sub k hk), .slice none 0 0, .pointer none, ?_, ?_, World.ownsRow_nil _ _ _ _, rfl, fun _ => rfl, rfl, rfl⟩, hu', fun k hk => .inl (foot_small_sub k hk), rfl⟩
  · rw [hf]; exact set3 (set2 (set1 hB1))
  · rw [hf, Below.heap_setCell _ _ _ _ hBS.symm, Below.heap_setCell _ _ _ _ hBS.symm, Below.heap_setCell _ _ _ _ hBS.symm]; exact hS

theorem fail_any {w : World} {base : Nat} {f : Foot} {s : DS} (h : DiskAt w base f s) (hql : s.q.length ≤ 1000000) (wr b : Int) :
    Calls Try.prog 16 #[.pointer (some ⟨f.B, 0, none⟩), .int .i64 wr, .int .i64 b] w fun e w' => e = .returned (.tuple #[]) ∧ ∃ f', DiskAt w' base f' (s.fail wr b) ∧ Turn f f' w w' := by
  by_cases ho : s.off = true
  · refine (fail_off h wr b ho).mono fun e w' hh => ⟨hh.1, f, ?_, ?_⟩
    · rw [← hh.2, DS.fail, if_pos ho]; exact h
    · rw [← hh.2]; exact .same (Upd.refl _ _)
  have ho' : s.off = false := by simpa using ho
  have hfs : s.fail wr b = { s with st := s.failSt wr b, q := [], off := true, armed := none } := by rw [DS.fail, if_neg ho]
  have hfl := failSt_len s h.wf wr b
  rw [hfs]
  obtain ⟨qv, av, c0, c1, c2, c3, hfz, h1, h2, h3, h4, h0, h5⟩ := h.cells
  rw [ho'] at c2
  have h3' := h3
  obtain ⟨h3a, h3b⟩ := h3
  rcases h3b with ⟨rfl, hn⟩ | ⟨g, cap, cur, rfl, hb, hg, hn, hc, hs, ht⟩
  · have hq0 : s.q = [] := List.eq_nil_of_length_eq_zero hn
    have hst : s.failSt wr b = s.st := by unfold DS.failSt; simp [hq0, settleL]
    refine (fail_nil (.slice none 0 0) av wr b c1 c2 c3 hfz).mono fun e w' hh => ⟨hh.1, ?_⟩
    rw [hst]
    exact fail_after h hh.2 (Upd.refl _ _) s.st h2 h.wf.len
  · have hgne := Foot.q_ne h.nodup (g := g) (by rw [h4]; rfl)
    have hps := pendsAt_of h3'
    have hBS := Foot.two h.nodup
    by_cases hk : min wr.toNat s.q.length < s.q.length
    · have hwr : (wr < 0 ∧ min wr.toNat s.q.length = 0) ∨ wr = ((min wr.toNat s.q.length : Nat) : Int) := by omega
      have hb2 : (b < 0 ∧ cutB b = 0) ∨ (b = cutB b ∧ cutB b ≤ 32) ∨ (32 < b ∧ cutB b = 32) := by unfold cutB; omega
      refine (fail_some s.n cap s.st s.q av wr b _ _ h.wf.n1 hql hn hk hwr hb2 c0 c1 c2 c3 hfz hBS hgne.2.symm h2 h.wf.len h.wf.q hps).mono fun e w' hh => ⟨hh.1, ?_⟩
      obtain ⟨w1, e1, hu, hS⟩ := hh.2
      refine fail_after h e1 hu _ ?_ hfl
      rw [hS]
      unfold DS.failSt
      simp only [List.getElem?_eq_getElem hk]
    · have hwr : ∃ m : Nat, wr = m ∧ s.q.length ≤ m ∨ s.q.length = 0 ∧ wr < 0 := ⟨wr.toNat, by omega⟩
      obtain ⟨m, ⟨rfl, hm⟩ | ⟨hz, hneg⟩⟩ := hwr
      · refine (fail_all s.n cap s.st s.q av m b h.wf.n1 hql hn hm c0 c1 c2 c3 hfz hBS hgne.2.symm h2 h.wf.len h.wf.q hps).mono fun e w' hh => ⟨hh.1, ?_⟩
        obtain ⟨w1, e1, hu, hS⟩ := hh.2
        refine fail_after h e1 hu _ ?_ hfl
        rw [hS]
        unfold DS.failSt
        have e1 : min (m : Int).toNat s.q.length = s.q.length := by omega
        simp only [e1]
        rw [List.getElem?_eq_none (by omega), List.take_length]
      · have := h0 (List.eq_nil_of_length_eq_zero hz)
        simp at this

end Go.Proofs.Ytcihncgajkogkaa
