/- NetworkDelays, plain. -/
import Derived.Test.YtlmfgdibodpniaaEnds
namespace Go.Proofs.Ytlmfgdibodpniaa

/-! ### With no fates every copy is due at once -/
theorem due0_send {s : NS} (h : Due 0 s) (hf : s.fates = []) (p : Pk) : Due 0 (s.send p).1 ∧ (s.send p).1.fates = [] := by
  by_cases he : (s.send p).2 = 0
  · obtain ⟨-, -, hs⟩ := send_ok he
    have hfa : s.fate = Fa.one := by unfold NS.fate; rw [hf]; rfl
    rw [hs, putN_fates]
    refine ⟨due_putN (s := s.next) h p _ (by rw [hfa]; exact Nat.le_refl _) _, ?_⟩
    show s.fates.tail = []
    rw [hf]; rfl
  · rw [send_no he]; exact ⟨h, hf⟩
theorem due0_step {s : PS} (h : Due 0 s.net) (hf : s.net.fates = []) (o : OpR) : Due 0 (s.step [] o).net ∧ (s.step [] o).net.fates = [] := by
  unfold PS.step
  split
  · split
    · exact due0_send h hf _
    · exact due0_send h hf _
  · split
    · split
      · exact ⟨due_recv h _, hf⟩
      · exact ⟨h, hf⟩
    · exact ⟨due_step h, hf⟩
theorem due0_run (l : List OpR) : ∀ {s : PS}, Due 0 s.net → s.net.fates = [] → Due 0 (s.run [] l).net ∧ (s.run [] l).net.fates = [] := by
  induction l with
  | nil => intro s h hf; exact ⟨h, hf⟩
  | cons o l ih =>
    intro s h hf
    rw [PS.run_cons]
    obtain ⟨h1, h2⟩ := due0_step h hf o
    exact ih h1 h2
theorem due0_start (n : Nat) (fs : List Fa) : Due 0 (start n fs).net := by
  intro h c hc
  have e2 : (NS.new n fs).way h = [] := by unfold NS.way NS.new; rw [List.getD_eq_getElem?_getD, List.getElem?_replicate]; split <;> rfl
  rw [show (start n fs).net = NS.new n fs from rfl, e2] at hc
  simp at hc

theorem send_one {s : NS} {b : ByteArray} (hm : 2 ≤ s.ways.length) (hmany : s.fate.many = 1) (hc : s.count ≤ 3999) :
    s.send ⟨0, 1, b⟩ = (s.next.put ⟨0, 1, b⟩ (s.time + s.fate.delay.toNat), 0) := by
  have ha : s.arg ⟨0, 1, b⟩ = true := by
    simp only [NS.arg, NS.has, Bool.and_eq_true, decide_eq_true_eq]
    omega
  unfold NS.send
  rw [if_neg (by rw [ha]; decide), hmany, if_neg (by omega)]
  rfl

theorem delays_first {m : Nat} (h2 : 2 ≤ m) (h12 : m ≤ 12) (l : List OpR) (hl : l.length ≤ 200) (b : ByteArray) :
    ((PS.run [] (start m []) l).net.send ⟨0, 1, b⟩).2 = 0 ∧ ∃ g, ((PS.run [] (start m []) l).net.send ⟨0, 1, b⟩).1.got 1 = g ++ [⟨0, 1, b⟩] := by
  have hi := run_inv l (start_inv (n := m) (fs := []) (by omega) h12 rfl)
  have hok := start_ok (m := m) (fs := []) (by omega) h12 rfl (Nat.zero_le _) l hl
  obtain ⟨hd, hf⟩ := due0_run l (due0_start m []) rfl
  obtain ⟨s, hs⟩ : ∃ s, s = PS.run [] (start m []) l := ⟨_, rfl⟩
  rw [← hs] at hi hok hd hf ⊢
  have hcn : s.net.count ≤ 3999 := by have := hi.cons; have := hok.sent; omega
  have hfa : s.net.fate = Fa.one := by unfold NS.fate; rw [hf]; rfl
  rw [send_one (by rw [hi.ways]; exact h2) (by rw [hfa]; rfl) hcn]
  refine ⟨rfl, (s.net.way 1).map Cp.p, ?_⟩
  have hlt : 1 < s.net.ways.length := by rw [hi.ways]; omega
  have hw := put_way_self s.net.next ⟨0, 1, b⟩ (s.net.time + s.net.fate.delay.toNat) hlt
  have hw : (s.net.next.put ⟨0, 1, b⟩ (s.net.time + s.net.fate.delay.toNat)).way 1 = insC (s.net.way 1) ⟨⟨0, 1, b⟩, s.net.time + s.net.fate.delay.toNat, s.net.number⟩ := hw
  have ht : s.net.time + s.net.fate.delay.toNat = s.net.time := by rw [hfa]; rfl
  have hall : ∀ c ∈ s.net.way 1, c.t ≤ s.net.time := fun c hc => hd 1 c hc
  have hins : insC (s.net.way 1) ⟨⟨0, 1, b⟩, s.net.time + s.net.fate.delay.toNat, s.net.number⟩ = s.net.way 1 ++ [⟨⟨0, 1, b⟩, s.net.time, s.net.number⟩] := by
    rw [ht]
    unfold insC posC
    rw [takeWhile_all _ _ fun c hc => by simpa using hall c hc]
    simp
  unfold NS.got NS.taken
  rw [hw, hins, takeWhile_all]
  · simp
  · intro c hc
    show decide (c.t ≤ s.net.time) = true
    rcases List.mem_append.1 hc with hc | hc
    · simpa using hall c hc
    · rw [List.mem_singleton.1 hc]; simp

/-! ### One packet that is late -/
structure WaitN (m d k : Nat) (p : Pk) (s : NS) : Prop where
  wf : s.Wf
  ways : s.ways.length = m
  way : ∃ n, s.way 1 = [⟨p, d, n⟩]
  time : s.time = k
  count : s.count = 1
  num : s.number ≤ 1
  fl : s.fates.length ≤ 1
def lateF (d : Nat) : List Fa := [⟨false, 1, d⟩]
theorem lateF_right {d : Nat} (h : d ≤ 100) : rightB (lateF d) = true := by
  simp [rightB, lateF, Fa.right]; omega
theorem wait_send {m d : Nat} (h2 : 2 ≤ m) (h12 : m ≤ 12) (hd : d ≤ 100) (b : ByteArray) :
    ((NS.new m (lateF d)).send ⟨0, 1, b⟩).2 = 0 ∧ WaitN m d 0 ⟨0, 1, b⟩ ((NS.new m (lateF d)).send ⟨0, 1, b⟩).1 := by
  have hlen : (NS.new m (lateF d)).ways.length = m := by simp [NS.new]
  have e := send_one (s := NS.new m (lateF d)) (b := b) (by rw [hlen]; exact h2) rfl (Nat.zero_le _)
  have hwf := send_wf (new_wf (n := m) (by omega) h12 (lateF_right hd)) ⟨0, 1, b⟩
  rw [e] at hwf ⊢
  refine ⟨rfl, hwf, ?_, ⟨0, ?_⟩, rfl, rfl, Nat.le_refl _, Nat.zero_le _⟩
  · rw [put_ways_len]; exact hlen
  · have hw := put_way_self (NS.new m (lateF d)).next ⟨0, 1, b⟩ (0 + (d : Int).toNat) (by show 1 < (NS.new m (lateF d)).ways.length; rw [hlen]; omega)
    have hn : (NS.new m (lateF d)).next.way 1 = [] := by
      show (List.replicate m ([] : List Cp)).getD 1 [] = []
      rw [List.getD_eq_getElem?_getD, List.getElem?_replicate]; split <;> rfl
    have hw : ((NS.new m (lateF d)).next.put ⟨0, 1, b⟩ (0 + (d : Int).toNat)).way 1 = insC ((NS.new m (lateF d)).next.way 1) ⟨⟨0, 1, b⟩, 0 + (d : Int).toNat, 0⟩ := hw
    rw [hn] at hw
    have h0 : 0 + (d : Int).toNat = d := by omega
    rw [h0] at hw
    show ((NS.new m (lateF d)).next.put ⟨0, 1, b⟩ (0 + (d : Int).toNat)).way 1 = _
    rw [h0, hw]
    rfl
theorem wait_recv {m d k : Nat} {p : Pk} {s : NS} (h : WaitN m d k p s) (hk : k < d) (h2 : 2 ≤ m) : s.got 1 = [] ∧ WaitN m d k p (s.recv 1) := by
  obtain ⟨n, hw⟩ := h.way
  have ht : s.taken 1 = [] := by
    unfold NS.taken
    rw [hw, List.takeWhile_cons, if_neg (by rw [h.time]; simpa using hk)]
  have hlt : 1 < s.ways.length := by rw [h.ways]; omega
  refine ⟨by unfold NS.got; rw [ht]; rfl, recv_wf h.wf 1 hlt, ?_, ⟨n, ?_⟩, h.time, ?_, h.num, h.fl⟩
  · simp [NS.recv]; exact h.ways
  · rw [recv_way_self hlt, ht, hw]; rfl
  · show s.count - _ = 1
    rw [ht, h.count]; rfl
theorem wait_step {m d k : Nat} {p : Pk} {s : NS} (h : WaitN m d k p s) : WaitN m d (k + 1) p s.step :=
  ⟨step_wf h.wf, h.ways, h.way, by show s.time + 1 = k + 1; rw [h.time], h.count, h.num, h.fl⟩
theorem wait_end {m d : Nat} {p : Pk} {s : NS} (h : WaitN m d d p s) : s.got 1 = [p] := by
  obtain ⟨n, hw⟩ := h.way
  unfold NS.got NS.taken
  rw [hw, List.takeWhile_cons, if_pos (by rw [h.time]; simp)]
  rfl
end Go.Proofs.Ytlmfgdibodpniaa
