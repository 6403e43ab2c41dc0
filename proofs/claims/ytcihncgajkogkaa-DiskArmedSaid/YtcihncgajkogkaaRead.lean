/- (*Disk).Read. -/
import Derived.Test.YtcihncgajkogkaaWrite
import Derived.Laws.IdiomStrings
namespace Go.Proofs.Ytcihncgajkogkaa
open Go.RowKit

def lastQ (q : List (Nat × ByteArray)) (sec : Nat) : Option ByteArray := (q.reverse.find? (fun p => p.1 == sec)).map (·.2)
theorem lastQ_nil (sec : Nat) : lastQ [] sec = none := rfl
theorem lastQ_snoc (q : List (Nat × ByteArray)) (p : Nat × ByteArray) (sec : Nat) : lastQ (q ++ [p]) sec = if p.1 = sec then some p.2 else lastQ q sec := by
  unfold lastQ
  rw [List.reverse_append, List.reverse_singleton, List.singleton_append, List.find?_cons]
  by_cases h : p.1 = sec
  · simp [h]
  · simp [h, beq_eq_false_iff_ne.2 h]

def stAt (st : List UInt8) (sec : Nat) : ByteArray := ⟨((st.drop (sec * 32)).take 32).toArray⟩
def DS.get (s : DS) (sec : Nat) : ByteArray := (lastQ s.q sec).getD (stAt s.st sec)
def DS.read (s : DS) (sec : Int) : ByteArray × Int := if s.atE sec ≠ 0 then (ByteArray.empty, s.atE sec) else (s.get sec.toNat, 0)

set_option maxHeartbeats 400000 in
theorem read_at {w : World} {B : Nat} (sec e0 : Int) (he : e0 ≠ 0) (HA : Hid (Calls Try.prog 24 #[.pointer (some ⟨B, 0, none⟩), .int .i64 sec] w fun e w' => e = .returned (.tuple #[.agg #[.int .i64 0, .int .i64 0], .int .i64 e0]) ∧ Upd [] w w')) :
    Calls Try.prog 21 #[.pointer (some ⟨B, 0, none⟩), .int .i64 sec] w fun e w' => e = .returned (.tuple #[.string ByteArray.empty, .int .i64 e0]) ∧ Upd [] w w' := by
  have hb : (e0 != 0) = true := by simpa using he
  clear he
  go_enter Try.func21, Try.ntmps21
  go_wp2_with fail
  refine HA.out.mono ?_
  rintro e w1 ⟨rfl, hu1⟩
  go_wp2
  go_ret2
  exact ⟨rfl, hu1.alloc _⟩

theorem ret_str_int {a b : ByteArray} {k : IntKind} {n : Int} (h : a = b) : Ending.returned (.tuple #[.string a, .int k n]) = .returned (.tuple #[.string b, .int k n]) := by rw [h]

theorem lastQ_step (q : List (Nat × ByteArray)) (k sec : Nat) (hk : k < q.length) (h : lastQ q sec = lastQ (q.take (k + 1)) sec) : lastQ q sec = if q[k].1 = sec then some q[k].2 else lastQ (q.take k) sec := by
  rw [h, List.take_succ_eq_append_getElem hk, lastQ_snoc]

theorem conv_sec (w : World) (S n sec : Nat) (st : List UInt8) (hl : st.length = n * 32) (hs : sec < n) (h : w.heap[S]? = some (.cells (st.map byteCell).toArray 5)) :
    (convert 49 9 (.slice (some ⟨S, sec * 32, none⟩) 32 (n * 32 - sec * 32))).run Try.prog w = .ok (.string (stAt st sec)) w := by
  have hlen : ((st.drop (sec * 32)).take 32).length = 32 := by rw [List.length_take, List.length_drop]; omega
  have := run_convert_bytes_back (P := Try.prog) w 49 9 5 ⟨S, sec * 32, none⟩ (n * 32 - sec * 32) ((st.drop (sec * 32)).take 32) Try.underlying49 Try.underlying5 Try.underlying9 (fun j hj => by
    have hadd : (⟨S, sec * 32, none⟩ : Addr).add j = ⟨S, sec * 32 + j, none⟩ := by unfold Addr.add; split <;> simp_all
    rw [hadd, cell_of_row w S _ _ 5 (0, 0) h]
    rw [hlen] at hj
    simp [byteCell, List.getElem?_eq_getElem (show sec * 32 + j < st.length by omega)])
  rw [hlen] at this
  exact this

set_option maxHeartbeats 1000000 in
theorem read_some {w : World} {base : Nat} {f : Foot} {s : DS} (h : DiskAt w base f s) (hql : s.q.length ≤ 1000000) (ho : s.off = false) (sec : Nat) (hsec : sec < s.n) (g cap : Nat) (hqv : w.cell? ⟨f.B, 1, none⟩ = some (.slice (some ⟨g, 0, none⟩) s.q.length cap)) :
    Calls Try.prog 21 #[.pointer (some ⟨f.B, 0, none⟩), .int .i64 sec] w fun e w' => e = .returned (.tuple #[.string (s.get sec), .int .i64 0]) ∧ Upd [] w w' := by
  have HA := Lib.hid (at_ok h sec ho hsec)
  obtain ⟨qv, av, c0, c1, c2, c3, hfz, h1, h2, h3, h4, h0, h5⟩ := h.cells
  obtain rfl : qv = .slice (some ⟨g, 0, none⟩) s.q.length cap := by rw [c1] at hqv; simpa using hqv
  have hps := pendsAt_of h3
  have hn1 := h.wf.n1
  have HL := Lib.hid h.wf.len
  have HS := Lib.hid h2
  have hBl := h.B_lt
  have hgl : f.S < w.heap.size := h.lt _ (by simp [Foot.list])
  have HX : Hid (s.get sec = (lastQ s.q sec).getD (stAt s.st sec)) := rfl
  clear h c2 c3 hfz h1 h2 h3 h4 h0 h5 hqv
  go_enter Try.func21, Try.ntmps21
  go_wp2_with fail
  refine HA.out.mono ?_
  rintro e w1 ⟨rfl, hu1⟩
  have hz1 := hu1.size
  have c0 := hu1.cell c0 (by simp)
  have c1 := hu1.cell c1 (by simp)
  have hBl1 : f.B < w1.heap.size := by omega
  go_wp2
  go_loopw [8] (fun i wr => ∃ k : Nat, k ≤ s.q.length ∧ i = .int .i64 ((k : Int) - 1) ∧ Hid (lastQ s.q sec = lastQ (s.q.take k) sec) ∧ Upd [] (w1.alloc (.cells #[.int .i64 (sec * 32), .int .i64 ((sec + 1) * 32)] 56)) wr) (fun i _ => (intOf i + 1).toNat)
  case atStart => exact ⟨s.q.length, Nat.le_refl _, rfl, by unfold Hid; rw [List.take_length], Upd.refl _ _⟩
  case round =>
    obtain ⟨k, hk, rfl, hl, hu⟩ := hrel
    have d0 := hu.cell (p := ⟨f.B, 0, none⟩) (by rw [World.cell?_alloc_lt _ _ _ (by simp only; omega)]; exact c0) (by simp)
    have d1 := hu.cell (p := ⟨f.B, 1, none⟩) (by rw [World.cell?_alloc_lt _ _ _ (by simp only; omega)]; exact c1) (by simp)
    have e0 := hu.cell (p := ⟨w1.heap.size, 0, none⟩) (by rw [World.cell?_alloc_new]; rfl) (by simp)
    have e1 := hu.cell (p := ⟨w1.heap.size, 1, none⟩) (by rw [World.cell?_alloc_new]; rfl) (by simp)
    by_cases hk0 : k = 0
    · subst hk0
      have hcv : ∀ nq, (convert 49 9 (.slice (some ⟨f.S, sec * 32, none⟩) 32 (s.n * 32 - sec * 32))).run Try.prog (wr.drewN nq) = .ok (.string (stAt s.st sec)) (wr.drewN nq) := by
        intro nq
        refine conv_sec (wr.drewN nq) f.S s.n sec s.st HL.out hsec ?_
        have hu' := (hu1.trans (((Upd.refl [] w1).alloc (.cells #[.int .i64 (sec * 32), .int .i64 ((sec + 1) * 32)] 56)).trans hu)).drewN' nq
        rw [hu'.block f.S hgl (by simp)]
        exact HS.out
      have hsl := run_slice_sec f.S s.n sec hsec
      have HR : Hid (s.get sec = stAt s.st sec) := by unfold Hid; rw [HX.out, hl.out]; rfl
      clear c0 c1
      go_wp2
      go_quiet (fail)
      go_wp2
      go_ret2
      exact ⟨ret_str_int HR.out.symm, (hu1.trans (((Upd.refl [] w1).alloc _).trans hu)).drewN' _⟩
    · obtain ⟨j, rfl⟩ : ∃ j, k = j + 1 := ⟨k - 1, by omega⟩
      have hj : j < s.q.length := by omega
      obtain ⟨sj, tj, hqj⟩ : ∃ sj tj, s.q[j] = (sj, tj) := ⟨_, _, rfl⟩
      have q0 := (hu1.trans (((Upd.refl [] w1).alloc _).trans hu)).cell (hps.c0 j hj) (by simp)
      have q2 := (hu1.trans (((Upd.refl [] w1).alloc _).trans hu)).cell (hps.c2 j hj) (by simp)
      have hstep := lastQ_step s.q j sec hj hl.out
      rw [hqj] at q0 q2 hstep
      have HST := Lib.hid hstep
      have hi : ((j + 1 : Nat) : Int) - 1 = (j : Int) := by omega
      have hlt : (j : Int) < (s.q.length : Int) := by omega
      rw [hi]
      clear hstep c0 c1 hl hi hqj hk0
      by_cases he : sj = sec
      · subst he
        have HR : Hid (s.get sj = tj) := by unfold Hid; rw [HX.out, HST.out]; simp
        have HU : Hid (Upd [] w wr) := hu1.trans (((Upd.refl [] w1).alloc _).trans hu)
        go_wp2
        go_quiet (fail)
        go_wp2
        go_ret2
        exact ⟨ret_str_int HR.out.symm, HU.out.drewN' _⟩
      · have hne : ((sj : Int) * 32 == (sec : Int) * 32) = false := by rw [beq_eq_false_iff_ne]; omega
        have HR : Hid (lastQ s.q sec = lastQ (s.q.take j) sec) := by unfold Hid; rw [HST.out, if_neg he]
        go_wp2
        go_quiet (fail)
        go_wp2
        go_roundw
        case rel => exact ⟨j, by omega, rfl, HR, hu.drewN' _⟩
        case measure => simp [intOf]

set_option maxHeartbeats 1000000 in
theorem read_nil {w : World} {base : Nat} {f : Foot} {s : DS} (h : DiskAt w base f s) (ho : s.off = false) (sec : Nat) (hsec : sec < s.n) (hqv : w.cell? ⟨f.B, 1, none⟩ = some (.slice none 0 0)) :
    Calls Try.prog 21 #[.pointer (some ⟨f.B, 0, none⟩), .int .i64 sec] w fun e w' => e = .returned (.tuple #[.string (stAt s.st sec), .int .i64 0]) ∧ Upd [] w w' := by
  have HA := Lib.hid (at_ok h sec ho hsec)
  obtain ⟨qv, av, c0, c1, c2, c3, hfz, h1, h2, h3, h4, h0, h5⟩ := h.cells
  obtain rfl : qv = .slice none 0 0 := by rw [c1] at hqv; simpa using hqv
  have hn1 := h.wf.n1
  have HL := Lib.hid h.wf.len
  have HS := Lib.hid h2
  have hBl := h.B_lt
  have hgl : f.S < w.heap.size := h.lt _ (by simp [Foot.list])
  clear h c2 c3 hfz h1 h2 h3 h4 h0 h5 hqv
  go_enter Try.func21, Try.ntmps21
  go_wp2_with fail
  refine HA.out.mono ?_
  rintro e w1 ⟨rfl, hu1⟩
  have hz1 := hu1.size
  have c0 := hu1.cell c0 (by simp)
  have c1 := hu1.cell c1 (by simp)
  have hBl1 : f.B < w1.heap.size := by omega
  obtain ⟨w2, hw2⟩ : ∃ w2, Hid (w2 = w1.alloc (.cells #[.int .i64 (sec * 32), .int .i64 ((sec + 1) * 32)] 56)) := ⟨_, rfl⟩
  have hcv : ∀ nq, (convert 49 9 (.slice (some ⟨f.S, sec * 32, none⟩) 32 (s.n * 32 - sec * 32))).run Try.prog ((w1.alloc (.cells #[.int .i64 (sec * 32), .int .i64 ((sec + 1) * 32)] 56)).drewN nq) = .ok (.string (stAt s.st sec)) ((w1.alloc (.cells #[.int .i64 (sec * 32), .int .i64 ((sec + 1) * 32)] 56)).drewN nq) := by
    intro nq
    refine conv_sec _ f.S s.n sec s.st HL.out hsec ?_
    have hu' := (hu1.trans ((Upd.refl [] w1).alloc (.cells #[.int .i64 (sec * 32), .int .i64 ((sec + 1) * 32)] 56))).drewN' nq
    rw [hu'.block f.S hgl (by simp)]
    exact HS.out
  have hsl := run_slice_sec f.S s.n sec hsec
  go_wp2
  refine wp_loop_rounds 1 ?_; rw [rounds_succ]
  go_wp2
  go_quiet (fail)
  go_wp2
  go_ret2
  exact ⟨rfl, (hu1.alloc _).drewN' _⟩

theorem read_any {w : World} {base : Nat} {f : Foot} {s : DS} (h : DiskAt w base f s) (hql : s.q.length ≤ 1000000) (sec : Int) :
    Calls Try.prog 21 #[.pointer (some ⟨f.B, 0, none⟩), .int .i64 sec] w fun e w' => e = .returned (.tuple #[.string (s.read sec).1, .int .i64 (s.read sec).2]) ∧ Upd [] w w' := by
  by_cases ho : s.off = true
  · have ha : s.atE sec = 21 := by unfold DS.atE; rw [if_pos ho]
    have hr : s.read sec = (ByteArray.empty, 21) := by unfold DS.read; rw [ha]; simp
    rw [hr]
    exact read_at sec 21 (by decide) (at_off h sec ho)
  have ho' : s.off = false := by simpa using ho
  by_cases hs : sec < 0 ∨ (s.n : Int) ≤ sec
  · have ha : s.atE sec = 1 := by unfold DS.atE; rw [if_neg ho, if_pos hs]
    have hr : s.read sec = (ByteArray.empty, 1) := by unfold DS.read; rw [ha]; simp
    rw [hr]
    exact read_at sec 1 (by decide) (at_bad h sec ho' hs)
  have ha : s.atE sec = 0 := by unfold DS.atE; rw [if_neg ho, if_neg hs]
  have hr : s.read sec = (s.get sec.toNat, 0) := by unfold DS.read; rw [ha]; simp
  rw [hr]
  obtain ⟨k, rfl⟩ := Int.eq_ofNat_of_zero_le (show 0 ≤ sec by omega)
  obtain ⟨qv, av, c0, c1, c2, c3, hfz, h1, h2, h3, h4, h0, h5⟩ := h.cells
  have h3' := h3
  obtain ⟨h3a, h3b⟩ := h3
  rcases h3b with ⟨rfl, hn⟩ | ⟨g, cap, cur, rfl, hb, hg, hn, hc, hs', hh⟩
  · have hq0 : s.q = [] := List.eq_nil_of_length_eq_zero hn
    refine (read_nil h ho' k (by omega) c1).mono fun e w' hh => ⟨?_, hh.2⟩
    rw [hh.1]
    exact ret_str_int (by unfold DS.get; rw [hq0]; rfl)
  · exact read_some h hql ho' k (by omega) g cap c1

end Go.Proofs.Ytcihncgajkogkaa
