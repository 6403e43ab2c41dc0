/- The subject's network and the reference's, side by side. -/
import Derived.Test.YtlmfgdibodpniaaRefR
namespace Go.Proofs.Ytlmfgdibodpniaa
open Go.RowKit

def Pair (w0 w : World) (B B' : Nat) (N : NS) (r : RS) : Prop :=
  ∃ (f : NFoot) (g : RFoot), f.B = B ∧ g.B = B' ∧ NetAt w w0.heap.size f N ∧ RefAt w w0.heap.size g r ∧ (∀ k ∈ f.list, k ∉ g.list) ∧ Upd [] w0 w

theorem Pair.net {w0 w w' : World} {f f' : NFoot} {g : RFoot} {N N' : NS} {r : RS} (h1 : NetAt w w0.heap.size f N) (h2 : RefAt w w0.heap.size g r) (h3 : ∀ k ∈ f.list, k ∉ g.list) (h4 : Upd [] w0 w) (hn : NetAt w' w0.heap.size f' N') (ht : NTurn f f' w w') : Pair w0 w' f.B g.B N' r :=
  ⟨f', g, ht.B, rfl, hn, h2.upd ht.upd (fun k hk hm => h3 k hm hk), fun k hk hm => by
    rcases ht.sub k hk with h | h
    · exact h3 k h hm
    · have := h2.lt k hm; omega, h4.then ht.upd (fun k hk => .inr (h1.ge k hk))⟩
theorem Pair.ref {w0 w w' : World} {f : NFoot} {g g' : RFoot} {N : NS} {r r' : RS} (h1 : NetAt w w0.heap.size f N) (h2 : RefAt w w0.heap.size g r) (h3 : ∀ k ∈ f.list, k ∉ g.list) (h4 : Upd [] w0 w) (hn : RefAt w' w0.heap.size g' r') (ht : RTurn g g' w w') : Pair w0 w' f.B g.B N r' :=
  ⟨f, g', rfl, ht.B, h1.upd ht.upd h3, hn, fun k hk hm => by
    rcases ht.sub k hm with h | h
    · exact h3 k hk h
    · have := h1.lt k hk; omega, h4.then ht.upd (fun k hk => .inr (h2.ge k hk))⟩
theorem Pair.keep {w0 w w' : World} {B B' : Nat} {N : NS} {r : RS} (h : Pair w0 w B B' N r) (hu : Upd [] w w') : Pair w0 w' B B' N r := by
  obtain ⟨f, g, rfl, rfl, h1, h2, h3, h4⟩ := h
  exact ⟨f, g, rfl, rfl, h1.upd hu (by simp), h2.upd hu (by simp), h3, h4.trans hu⟩
theorem Pair.upd {w0 w : World} {B B' : Nat} {N : NS} {r : RS} (h : Pair w0 w B B' N r) : Upd [] w0 w := by
  obtain ⟨f, g, -, -, -, -, -, h4⟩ := h; exact h4

theorem pair_start {w0 w w' : World} {n : Nat} {l : List Fa} {f : NFoot} {g : RFoot} (h1 : NetAt w w0.heap.size f (NS.new n l)) (hu : Upd [] w0 w) (h2 : RefAt w' w.heap.size g (RS.new n l)) (hu2 : Upd [] w w') : Pair w0 w' f.B g.B (NS.new n l) (RS.new n l) := by
  refine ⟨f, g, rfl, rfl, h1.upd hu2 (by simp), ⟨h2.bc, h2.bf, fun k hk => Nat.le_trans hu.size (h2.ge k hk), ?_⟩, fun k hk hm => by have := h1.lt k hk; have := h2.ge k hm; omega, hu.trans hu2⟩
  obtain ⟨fv, cv, x1, x2, x3, x4⟩ := h2.ex
  exact ⟨fv, cv, x1, x2, x3.mono hu.size, x4⟩

/-- The same, and a list that the subject's Receive gave. -/
def PairV (w0 w : World) (B B' : Nat) (N : NS) (r : RS) (v : Value) (L : List Pk) : Prop :=
  ∃ (f : NFoot) (g : RFoot), f.B = B ∧ g.B = B' ∧ NetAt w w0.heap.size f N ∧ RefAt w w0.heap.size g r ∧ (∀ k ∈ f.list, k ∉ g.list) ∧ Upd [] w0 w ∧ (∃ b0, PksAt w b0 v L) ∧ ∀ b, v.ownBlock = some b → b ∉ g.list
theorem PairV.read {w0 w : World} {B B' : Nat} {N : NS} {r : RS} {v : Value} {L : List Pk} (h : PairV w0 w B B' N r v L) : PkList w v L := by
  obtain ⟨f, g, -, -, -, -, -, -, ⟨b0, h⟩, -⟩ := h; exact h.read
theorem PairV.upd {w0 w : World} {B B' : Nat} {N : NS} {r : RS} {v : Value} {L : List Pk} (h : PairV w0 w B B' N r v L) : Upd [] w0 w := by
  obtain ⟨f, g, -, -, -, -, -, h4, -⟩ := h; exact h4

/-- What holds of the two states. -/
structure MI (m i : Nat) (N : NS) (r : RS) : Prop where
  same : Same N r
  wf : N.Wf
  ways : N.ways.length = m
  time : N.time ≤ i
  num : N.number ≤ 9 * i
  fl : N.fates.length ≤ 500
theorem MI.fr {m i : Nat} {N : NS} {r : RS} (h : MI m i N r) : rightB r.fates = true := by
  rw [← h.same.f]
  exact List.all_eq_true.2 h.wf.fr
theorem MI.cl {m i : Nat} {N : NS} {r : RS} (h : MI m i N r) : r.cps.length ≤ 4000 := by rw [← h.same.c]; exact h.wf.lim
theorem MI.rt {m i : Nat} {N : NS} {r : RS} (h : MI m i N r) : r.time ≤ i := by rw [← h.same.t]; exact h.time
theorem MI.rn {m i : Nat} {N : NS} {r : RS} (h : MI m i N r) : r.n = m := by rw [← h.same.n]; exact h.ways
theorem MI.rfl' {m i : Nat} {N : NS} {r : RS} (h : MI m i N r) : r.fates.length ≤ 500 := by rw [← h.same.f]; exact h.fl
theorem mi_new {m : Nat} (h1 : 1 ≤ m) (h2 : m ≤ 12) {fs : List Fa} (hr : rightB fs = true) (hl : fs.length ≤ 500) : MI m 0 (NS.new m fs) (RS.new m fs) :=
  ⟨same_new m fs, new_wf h1 h2 hr, by simp [NS.new], Nat.le_refl _, Nat.zero_le _, hl⟩
theorem mi_send {m i : Nat} {N : NS} {r : RS} (h : MI m i N r) (p : Pk) : MI m (i + 1) (N.send p).1 (r.send p).1 := by
  have hk : (N.send p).1.time = N.time ∧ (N.send p).1.fates.length ≤ N.fates.length := by
    by_cases he : (N.send p).2 = 0
    · obtain ⟨-, -, hs⟩ := send_ok he
      rw [hs, putN_time, putN_fates]
      exact ⟨rfl, by show N.fates.tail.length ≤ _; simp⟩
    · rw [send_no he]; exact ⟨rfl, Nat.le_refl _⟩
  have hnum : (N.send p).1.number ≤ N.number + 9 := send_number _ h.wf _
  exact ⟨(same_send h.same p).2, send_wf h.wf p, by rw [send_ways]; exact h.ways, by rw [hk.1]; have := h.time; omega, by have := h.num; omega, Nat.le_trans hk.2 h.fl⟩
theorem mi_recv {m i : Nat} {N : NS} {r : RS} (h : MI m i N r) {k : Nat} (hk : k < m) : MI m (i + 1) (N.recv k) (r.recv k) :=
  ⟨same_recv h.same (by rw [h.rn]; exact hk), recv_wf h.wf k (by rw [h.ways]; exact hk), by rw [recv_ways]; exact h.ways, Nat.le_succ_of_le h.time, by have := h.num; show N.number ≤ _; omega, h.fl⟩
theorem mi_step {m i : Nat} {N : NS} {r : RS} (h : MI m i N r) : MI m (i + 1) N.step r.step :=
  ⟨same_step h.same, step_wf h.wf, h.ways, by show N.time + 1 ≤ _; have := h.time; omega, by have := h.num; show N.number ≤ _; omega, h.fl⟩
theorem mi_stay {m i : Nat} {N : NS} {r : RS} (h : MI m i N r) : MI m (i + 1) N r :=
  ⟨h.same, h.wf, h.ways, Nat.le_succ_of_le h.time, by have := h.num; omega, h.fl⟩

section
variable {w0 w : World} {B B' m i : Nat} {N : NS} {r : RS} (h : Pair w0 w B B' N r) (M : MI m i N r) (hi : i ≤ 500)
include h M hi
theorem pair_send (p : Pk) : Calls Try.prog 14 #[.pointer (some ⟨B, 0, none⟩), p.val] w fun e w' => e = .returned (.int .i64 (N.send p).2) ∧ Pair w0 w' B B' (N.send p).1 r := by
  obtain ⟨f, g, rfl, rfl, h1, h2, h3, h4⟩ := h
  exact (send_any h1 M.wf h4.size (by have := M.time; omega) (by have := M.num; omega) (by have := M.fl; omega) p).mono fun e w' ⟨he, f', hn, hT⟩ => ⟨he, Pair.net h1 h2 h3 h4 hn hT⟩
omit hi in
theorem pair_recv (k : Nat) (hk : k < m) : Calls Try.prog 16 #[.pointer (some ⟨B, 0, none⟩), .int .i64 k] w fun e w' => ∃ v, e = .returned (.tuple #[v, .int .i64 0]) ∧ PairV w0 w' B B' (N.recv k) r v (N.got k) := by
  obtain ⟨f, g, rfl, rfl, h1, h2, h3, h4⟩ := h
  refine (recv_any h1 M.wf.n12 k (by rw [M.ways]; exact hk) (Nat.le_trans (M.wf.way_le k) M.wf.lim) (Nat.le_trans (N.taken_le k) (M.wf.way_le k)) M.wf.lim).mono fun e w' ⟨v, he, hp, hn, hu⟩ => ⟨v, he, ?_⟩
  exact ⟨f, g, rfl, rfl, hn, h2.upd hu (fun k hk hm => h3 k hm hk), h3, h4.then hu (fun k hk => .inr (h1.ge k hk)), ⟨_, hp⟩, fun b hb hm => by have := hp.ge b hb; have := h2.lt b hm; omega⟩
theorem pair_step : Calls Try.prog 19 #[.pointer (some ⟨B, 0, none⟩)] w fun e w' => e = .returned (.tuple #[]) ∧ Pair w0 w' B B' N.step r := by
  obtain ⟨f, g, rfl, rfl, h1, h2, h3, h4⟩ := h
  exact (step_any h1 (by have := M.time; omega)).mono fun e w' ⟨he, f', hn, hT⟩ => ⟨he, Pair.net h1 h2 h3 h4 hn hT⟩
omit M hi in
theorem pair_waiting : Calls Try.prog 21 #[.pointer (some ⟨B, 0, none⟩)] w fun e w' => e = .returned (.int .i64 N.count) ∧ w = w' := by
  obtain ⟨f, g, rfl, rfl, h1, h2, h3, h4⟩ := h
  exact waiting_any h1
omit hi in
theorem pair_bad (x : Int) (hx : N.has x = false) : Calls Try.prog 16 #[.pointer (some ⟨B, 0, none⟩), .int .i64 x] w fun e w' => e = .returned (.tuple #[.slice none 0 0, .int .i64 1]) ∧ w = w' := by
  obtain ⟨f, g, rfl, rfl, h1, h2, h3, h4⟩ := h
  exact recv_bad h1 M.wf.n12 x hx
end
section
variable {w0 w : World} {B B' m i : Nat} {N N1 : NS} {r : RS} (h : Pair w0 w B B' N1 r) (M : MI m i N r) (hi : i ≤ 500)
include h M hi
theorem pair_rsend (p : Pk) : Calls Try.prog 15 #[.pointer (some ⟨B', 0, none⟩), p.val] w fun e w' => e = .returned (.int .i64 (r.send p).2) ∧ Pair w0 w' B B' N1 (r.send p).1 := by
  obtain ⟨f, g, rfl, rfl, h1, h2, h3, h4⟩ := h
  by_cases ha : r.arg p = false
  · have e : r.send p = (r, 1) := by unfold RS.send; rw [if_pos ha]
    rw [e]
    exact (rsend_arg h2 p ha).mono fun e w' ⟨he, f', hn, hT⟩ => ⟨he, Pair.ref h1 h2 h3 h4 hn hT⟩
  · have ha' : r.arg p = true := by simpa using ha
    simp only [RS.arg, Bool.and_eq_true, decide_eq_true_eq] at ha'
    obtain ⟨src, dst, body⟩ := p
    exact (rsend_good h2 M.fr h4.size (by have := M.rt; omega) M.cl (by have := M.rfl'; omega) src dst body ha'.1.1 ha'.1.2 ha'.2).mono fun e w' ⟨he, f', hn, hT⟩ => ⟨he, Pair.ref h1 h2 h3 h4 hn hT⟩
theorem pair_rstep : Calls Try.prog 20 #[.pointer (some ⟨B', 0, none⟩)] w fun e w' => e = .returned (.tuple #[]) ∧ Pair w0 w' B B' N1 r.step := by
  obtain ⟨f, g, rfl, rfl, h1, h2, h3, h4⟩ := h
  exact (rstep_any h2 (by have := M.rt; omega)).mono fun e w' ⟨he, f', hn, hT⟩ => ⟨he, Pair.ref h1 h2 h3 h4 hn hT⟩
omit M hi in
theorem pair_rwaiting : Calls Try.prog 22 #[.pointer (some ⟨B', 0, none⟩)] w fun e w' => e = .returned (.int .i64 r.cps.length) ∧ w = w' := by
  obtain ⟨f, g, rfl, rfl, h1, h2, h3, h4⟩ := h
  exact rwaiting_any h2
omit M hi in
theorem pair_rbad (x : Int) (hx : r.has x = false) : Calls Try.prog 17 #[.pointer (some ⟨B', 0, none⟩), .int .i64 x] w fun e w' => e = .returned (.tuple #[.slice none 0 0, .int .i64 1]) ∧ w = w' := by
  obtain ⟨f, g, rfl, rfl, h1, h2, h3, h4⟩ := h
  exact rrecv_bad h2 x hx
end
theorem pair_rrecv {w0 w : World} {B B' m i : Nat} {N N1 : NS} {r : RS} {v : Value} {L : List Pk} (h : PairV w0 w B B' N1 r v L) (M : MI m i N r) (hi : i ≤ 500) (k : Nat) (hk : k < m) :
    Calls Try.prog 17 #[.pointer (some ⟨B', 0, none⟩), .int .i64 k] w fun e w' => ∃ v2, e = .returned (.tuple #[v2, .int .i64 0]) ∧ PkList w' v2 (r.got k) ∧ PkList w' v L ∧ Pair w0 w' B B' N1 (r.recv k) := by
  obtain ⟨f, g, rfl, rfl, h1, h2, h3, h4, ⟨b0, hv⟩, hd⟩ := h
  have hn12 := M.wf.n12
  refine (rrecv_any h2 h4.size (by have := M.cl; omega) (by have := M.rt; omega) k (by rw [M.rn]; exact hk) (by rw [M.rn, ← M.ways]; exact hn12)).mono fun e w' ⟨v2, he, hp, g', hn, hT⟩ => ⟨v2, he, hp, ?_, Pair.ref h1 h2 h3 h4 hn hT⟩
  exact PksAt.read (hv.upd fun b hb => hT.upd.block b (hv.lt b hb) (hd b hb))
end Go.Proofs.Ytlmfgdibodpniaa
