/- NetworkEnds, plain. -/
import Derived.Test.YtlmfgdibodpniaaInv
namespace Go.Proofs.Ytlmfgdibodpniaa

def noPk : Pk := ⟨0, 0, ByteArray.empty⟩
def stepOp : OpR := ⟨2, 0, noPk⟩
def recvOp (h : Nat) : OpR := ⟨1, h, noPk⟩
def moreOps (m : Nat) (l : List OpR) : List OpR := (l ++ List.replicate 100 stepOp) ++ (List.range m).map recvOp

/-- Nothing arrives later than d steps from now. -/
def Due (d : Nat) (s : NS) : Prop := ∀ h, ∀ c ∈ s.way h, c.t ≤ s.time + d

theorem due_put {d : Nat} {s : NS} (h : Due d s) (p : Pk) (t : Nat) (ht : t ≤ s.time + d) : Due d (s.put p t) := by
  intro i c hc
  show c.t ≤ s.time + d
  by_cases e : p.dst.toNat = i ∧ i < s.ways.length
  · obtain ⟨rfl, hl⟩ := e
    rw [put_way_self _ _ _ hl] at hc
    rcases insC_mem.1 hc with rfl | hc
    · exact ht
    · exact h _ c hc
  · have : (s.put p t).way i = s.way i := by
      by_cases e1 : p.dst.toNat = i
      · have hl : ¬ i < s.ways.length := fun hl => e ⟨e1, hl⟩
        unfold NS.way NS.put
        rw [List.getD_eq_getElem?_getD, List.getD_eq_getElem?_getD, List.getElem?_eq_none (by simp; omega), List.getElem?_eq_none (by omega)]
      · exact put_way_ne _ _ _ _ e1
    rw [this] at hc
    exact h i c hc
theorem due_putN {d : Nat} {s : NS} (h : Due d s) (p : Pk) (t : Nat) (ht : t ≤ s.time + d) (k : Nat) : Due d (s.putN p t k) := by
  induction k with
  | zero => exact h
  | succ k ih => rw [NS.putN]; exact due_put ih p t (by rw [putN_time]; exact ht)

theorem delay_le {f : Fa} (h : f.right = true) (hm : f.many ≠ 0) : f.delay.toNat ≤ 100 := by
  unfold Fa.many at hm
  simp only [Fa.right, Bool.or_eq_true, decide_eq_true_eq] at h
  rcases h with h | h
  · simp [h] at hm
  · omega

theorem due_send {s : NS} (hw : s.Wf) (h : Due 100 s) (p : Pk) : Due 100 (s.send p).1 := by
  by_cases he : (s.send p).2 = 0
  · obtain ⟨-, -, hs⟩ := send_ok he
    rw [hs]
    by_cases hm : s.fate.many = 0
    · rw [hm]; exact h
    · exact due_putN (s := s.next) h p _ (by have := delay_le (NS.fate_right hw) hm; show s.time + _ ≤ s.time + 100; omega) _
  · rw [send_no he]; exact h
theorem recv_way_self {s : NS} {i : Nat} (h : i < s.ways.length) : (s.recv i).way i = (s.way i).drop (s.taken i).length := getD_set_self _ _ _ _ h
theorem recv_way_ne {s : NS} {i j : Nat} (h : i ≠ j) : (s.recv i).way j = s.way j := getD_set_ne _ _ _ _ _ h
theorem recv_way_mem {s : NS} {i j : Nat} {c : Cp} (h : c ∈ (s.recv i).way j) : c ∈ s.way j := by
  by_cases e : i = j
  · subst e
    by_cases hl : i < s.ways.length
    · rw [recv_way_self hl] at h; exact List.mem_of_mem_drop h
    · have : (s.recv i).way i = s.way i := by
        unfold NS.way NS.recv
        rw [List.getD_eq_getElem?_getD, List.getD_eq_getElem?_getD, List.getElem?_eq_none (by simp; omega), List.getElem?_eq_none (by omega)]
      rw [this] at h; exact h
  · rw [recv_way_ne e] at h; exact h
theorem due_recv {d : Nat} {s : NS} (h : Due d s) (i : Nat) : Due d (s.recv i) := fun j c hc => h j c (recv_way_mem hc)
theorem due_step {d : Nat} {s : NS} (h : Due d s) : Due d s.step := fun j c hc => Nat.le_trans (h j c hc) (by show _ ≤ s.time + 1 + d; omega)

theorem due_pstep {fs : List Fa} {n : Nat} {s : PS} (hi : Inv fs n s) (h : Due 100 s.net) (o : OpR) : Due 100 (s.step fs o).net := by
  unfold PS.step
  split
  · split
    · exact due_send hi.wf h _
    · exact due_send hi.wf h _
  · split
    · split
      · exact due_recv h _
      · exact h
    · exact due_step h
theorem due_run {fs : List Fa} {n : Nat} (l : List OpR) : ∀ {s : PS}, Inv fs n s → Due 100 s.net → Due 100 (s.run fs l).net := by
  induction l with
  | nil => intro s _ h; exact h
  | cons o l ih => intro s hi h; rw [PS.run_cons]; exact ih (step_inv hi o) (due_pstep hi h o)
theorem due_start (n : Nat) (fs : List Fa) : Due 100 (start n fs).net := by
  intro h c hc
  have e2 : (NS.new n fs).way h = [] := by unfold NS.way NS.new; rw [List.getD_eq_getElem?_getD, List.getElem?_replicate]; split <;> rfl
  rw [show (start n fs).net = NS.new n fs from rfl, e2] at hc
  simp at hc

/-- Steps alone let it all arrive. -/
theorem due_steps (fs : List Fa) (k d : Nat) : ∀ {s : PS}, Due (k + d) s.net → Due d (s.run fs (List.replicate k stepOp)).net := by
  induction k with
  | zero => intro s h; rw [Nat.zero_add] at h; exact h
  | succ k ih =>
    intro s h
    rw [List.replicate_succ, PS.run_cons]
    refine ih ?_
    have e : s.step fs stepOp = { s with net := s.net.step } := rfl
    rw [e]
    intro i c hc
    have := h i c hc
    show c.t ≤ s.net.time + 1 + (k + d)
    omega

theorem takeWhile_all {α : Type} (p : α → Bool) (l : List α) (h : ∀ x ∈ l, p x = true) : l.takeWhile p = l := by
  induction l with
  | nil => rfl
  | cons a l ih => rw [List.takeWhile_cons, if_pos (h a (by simp)), ih fun x hx => h x (by simp [hx])]

/-- Then each house's Receive empties its way. -/
theorem empties (fs : List Fa) (n k : Nat) (hk : k ≤ n) : ∀ {s : PS}, Inv fs n s → Due 0 s.net → Due 0 (s.run fs ((List.range k).map recvOp)).net ∧ ∀ h, h < k → (s.run fs ((List.range k).map recvOp)).net.way h = [] := by
  induction k with
  | zero => intro s _ h; exact ⟨h, fun h hh => absurd hh (by omega)⟩
  | succ k ih =>
    intro s hi hd
    obtain ⟨h1, h2⟩ := ih (by omega) hi hd
    have hi' := run_inv ((List.range k).map recvOp) hi
    rw [List.range_succ, List.map_append, PS.run_append]
    obtain ⟨s', hs'⟩ : ∃ s', s' = s.run fs ((List.range k).map recvOp) := ⟨_, rfl⟩
    rw [← hs'] at h1 h2 hi' ⊢
    have hk' : k < s'.net.ways.length := by rw [hi'.ways]; omega
    have hh : s'.net.has (k : Int) = true := by simp [NS.has, hk']
    have e : s'.run fs ([k].map recvOp) = { s' with net := s'.net.recv k, bk := s'.bk.recv k (s'.net.got k) } := by
      show s'.step fs (recvOp k) = _
      unfold PS.step recvOp
      rw [if_neg (by simp), if_pos rfl, if_pos hh]
      simp
    rw [e]
    refine ⟨due_recv h1 k, fun h hlt => ?_⟩
    show (s'.net.recv k).way h = []
    by_cases e1 : k = h
    · subst e1
      rw [recv_way_self hk']
      have e2 : s'.net.taken k = s'.net.way k := takeWhile_all _ _ fun c hc => by
        have := h1 k c hc
        simpa using this
      rw [e2]; simp
    · rw [recv_way_ne e1]
      exact h2 h (by omega)

theorem ends {fs : List Fa} {m : Nat} (h1 : 1 ≤ m) (h2 : m ≤ 12) (hr : rightB fs = true) (l : List OpR) :
    (PS.run fs (start m fs) (moreOps m l)).net.count = 0 ∧ total (PS.run fs (start m fs) (moreOps m l)).bk = (PS.run fs (start m fs) (moreOps m l)).bk.sent.length ∧
    ∀ p ∈ (PS.run fs (start m fs) (moreOps m l)).bk.sent, 0 ≤ p.dst ∧ p.dst < m ∧ ((PS.run fs (start m fs) (moreOps m l)).bk.got.getD p.dst.toNat []).count p = (PS.run fs (start m fs) (moreOps m l)).bk.sent.count p := by
  have hi0 := start_inv h1 h2 hr
  have hi := run_inv (moreOps m l) hi0
  have hd1 := due_run l hi0 (due_start m fs)
  have hi1 := run_inv l hi0
  have hd2 := due_steps fs 100 0 (s := PS.run fs (start m fs) l) hd1
  have hi2 := run_inv (List.replicate 100 stepOp) hi1
  have he := (empties fs m m (Nat.le_refl _) hi2 hd2).2
  have eq : PS.run fs (start m fs) (moreOps m l) = PS.run fs (PS.run fs (PS.run fs (start m fs) l) (List.replicate 100 stepOp)) ((List.range m).map recvOp) := by
    unfold moreOps; rw [PS.run_append, PS.run_append]
  rw [← eq] at he
  obtain ⟨s, hs⟩ : ∃ s, s = PS.run fs (start m fs) (moreOps m l) := ⟨_, rfl⟩
  rw [← hs] at he hi ⊢
  have hc : s.net.count = 0 := by
    rw [hi.wf.cnt]
    have hall : ∀ w ∈ s.net.ways, w.length = 0 := by
      intro w hw
      obtain ⟨i, hil, rfl⟩ := List.mem_iff_getElem.1 hw
      have := he i (by rw [← hi.ways]; exact hil)
      unfold NS.way at this
      rw [List.getD_eq_getElem?_getD, List.getElem?_eq_getElem hil] at this
      have this : s.net.ways[i] = [] := this
      rw [this]; rfl
    have hmap : s.net.ways.map List.length = List.replicate s.net.ways.length 0 := by
      apply List.ext_getElem
      · simp
      · intro i h1 h2; simp; simpa using hall _ (List.getElem_mem (by simpa using h1))
    rw [hmap]; simp
  have hcons := hi.cons
  refine ⟨hc, by omega, fun p hp => ?_⟩
  have hdst := hi.dst p hp
  refine ⟨hdst.1, hdst.2, ?_⟩
  have h3 := hi.cnt p.dst.toNat (by omega) p
  rw [he p.dst.toNat (by omega)] at h3
  simp only [List.map_nil, List.count_nil, Nat.add_zero] at h3
  rw [h3]
  have : ((p.dst.toNat : Nat) : Int) = p.dst := by omega
  rw [List.count_filter (by simp [this])]
end Go.Proofs.Ytlmfgdibodpniaa
