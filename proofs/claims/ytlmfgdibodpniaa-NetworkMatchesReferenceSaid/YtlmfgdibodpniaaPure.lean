/- The network, plain: sending, and what stays true. -/
import Derived.Test.YtlmfgdibodpniaaNew
namespace Go.Proofs.Ytlmfgdibodpniaa

theorem sum_len_set {α : Type} (ls : List (List α)) (i : Nat) (l' : List α) (h : i < ls.length) : ((ls.set i l').map List.length).sum + (ls.getD i []).length = (ls.map List.length).sum + l'.length := by
  induction ls generalizing i with
  | nil => simp at h
  | cons a ls ih =>
    cases i with
    | zero => simp; omega
    | succ i =>
      have := ih i (by simpa using h)
      simp only [List.set_cons_succ, List.map_cons, List.sum_cons, List.getD_cons_succ] at this ⊢
      omega
theorem len_le_sum {α : Type} (ls : List (List α)) (i : Nat) : (ls.getD i []).length ≤ (ls.map List.length).sum := by
  induction ls generalizing i with
  | nil => simp
  | cons a ls ih =>
    cases i with
    | zero => simp
    | succ i => simp only [List.getD_cons_succ, List.map_cons, List.sum_cons]; have := ih i; omega

structure NS.Wf (s : NS) : Prop where
  n1 : 1 ≤ s.ways.length
  n12 : s.ways.length ≤ 12
  cnt : s.count = (s.ways.map List.length).sum
  lim : s.count ≤ 4000
  srt : ∀ l ∈ s.ways, l.Pairwise (fun a b => a.t ≤ b.t)
  num : ∀ l ∈ s.ways, ∀ c ∈ l, c.k < s.number
  fr : ∀ f ∈ s.fates, f.right = true

theorem NS.way_mem {s : NS} {i : Nat} (h : i < s.ways.length) : s.way i ∈ s.ways := by
  unfold NS.way
  rw [List.getD_eq_getElem?_getD, List.getElem?_eq_getElem h]
  exact List.getElem_mem h
theorem NS.way_get {s : NS} {i : Nat} (h : i < s.ways.length) : s.ways[i]? = some (s.way i) := by
  unfold NS.way
  rw [List.getD_eq_getElem?_getD, List.getElem?_eq_getElem h]; rfl
theorem NS.Wf.way_le {s : NS} (h : s.Wf) (i : Nat) : (s.way i).length ≤ s.count := by rw [h.cnt]; exact len_le_sum _ _
theorem NS.taken_le (s : NS) (i : Nat) : (s.taken i).length ≤ (s.way i).length := takeWhile_len_le _ _

/-! ### Putting one copy -/
def posC (l : List Cp) (t : Nat) : Nat := (l.takeWhile (fun c => decide (c.t ≤ t))).length
def insC (l : List Cp) (x : Cp) : List Cp := l.take (posC l x.t) ++ x :: l.drop (posC l x.t)
def NS.put (s : NS) (p : Pk) (t : Nat) : NS :=
  { s with ways := s.ways.set p.dst.toNat (insC (s.way p.dst.toNat) ⟨p, t, s.number⟩), number := s.number + 1, count := s.count + 1 }
def NS.putN (s : NS) (p : Pk) (t : Nat) : Nat → NS
  | 0 => s
  | k + 1 => (s.putN p t k).put p t

theorem posC_le (l : List Cp) (t : Nat) : posC l t ≤ l.length := takeWhile_len_le _ _
theorem insC_len (l : List Cp) (x : Cp) : (insC l x).length = l.length + 1 := by
  have := posC_le l x.t
  unfold insC; simp; omega
theorem insC_mem {l : List Cp} {x c : Cp} : c ∈ insC l x ↔ c = x ∨ c ∈ l := by
  unfold insC
  rw [List.mem_append, List.mem_cons]
  have : c ∈ l ↔ c ∈ l.take (posC l x.t) ∨ c ∈ l.drop (posC l x.t) := by
    rw [← List.mem_append, List.take_append_drop]
  rw [this]
  constructor <;> intro h <;> rcases h with h | h | h <;> simp [h]

theorem sorted_hi {l : List Cp} {t : Nat} (hs : l.Pairwise (fun a b => a.t ≤ b.t)) (i : Nat) (h : i < l.length) (hi : posC l t ≤ i) : t < l[i].t := by
  have hp : posC l t < l.length := by omega
  have h1 := takeWhile_end (fun c : Cp => decide (c.t ≤ t)) l hp
  have h1 : ¬ l[posC l t].t ≤ t := of_decide_eq_false h1
  rcases Nat.lt_or_ge (posC l t) i with hlt | hge
  · have := List.pairwise_iff_getElem.1 hs (posC l t) i hp h hlt
    omega
  · have e : posC l t = i := by omega
    subst e
    omega

theorem insC_sorted {l : List Cp} (x : Cp) (hs : l.Pairwise (fun a b => a.t ≤ b.t)) : (insC l x).Pairwise (fun a b => a.t ≤ b.t) := by
  unfold insC
  have hpre : ∀ c ∈ l.take (posC l x.t), c.t ≤ x.t := by
    intro c hc
    obtain ⟨i, hi, rfl⟩ := List.mem_iff_getElem.1 hc
    rw [List.length_take] at hi
    rw [List.getElem_take]
    have hp : i < posC l x.t := by omega
    exact of_decide_eq_true (takeWhile_at (fun c : Cp => decide (c.t ≤ x.t)) l i (by omega) hp)
  have hpost : ∀ c ∈ l.drop (posC l x.t), x.t ≤ c.t := by
    intro c hc
    obtain ⟨i, hi, rfl⟩ := List.mem_iff_getElem.1 hc
    rw [List.getElem_drop]
    rw [List.length_drop] at hi
    exact Nat.le_of_lt (sorted_hi hs _ (by omega) (by omega))
  rw [List.pairwise_append]
  refine ⟨hs.sublist (List.take_sublist _ _), ?_, ?_⟩
  · rw [List.pairwise_cons]
    exact ⟨hpost, hs.sublist (List.drop_sublist _ _)⟩
  · intro a ha b hb
    rcases List.mem_cons.1 hb with rfl | hb
    · exact hpre a ha
    · exact Nat.le_trans (hpre a ha) (hpost b hb)

theorem spot_of {l : List Cp} {x : Cp} (hs : l.Pairwise (fun a b => a.t ≤ b.t)) (hk : ∀ c ∈ l, c.k < x.k) : Spot l x (posC l x.t) := by
  refine ⟨posC_le _ _, ?_, ?_⟩
  · intro i h hi
    have h1 : l[i].t ≤ x.t := of_decide_eq_true (takeWhile_at (fun c : Cp => decide (c.t ≤ x.t)) l i h hi)
    have h2 := hk _ (List.getElem_mem h)
    unfold cmpC cmpI
    by_cases e : l[i].t = x.t
    · simp [e]; omega
    · have : (l[i].t : Int) < x.t := by omega
      simp [this]
  · intro i h hi
    have h1 := sorted_hi hs i h hi
    unfold cmpC cmpI
    have e1 : ¬ (l[i].t : Int) < x.t := by omega
    have e2 : (x.t : Int) < l[i].t := by omega
    simp [e1, e2]

theorem put_ways_len (s : NS) (p : Pk) (t : Nat) : (s.put p t).ways.length = s.ways.length := by simp [NS.put]
theorem putN_ways_len (s : NS) (p : Pk) (t : Nat) (k : Nat) : (s.putN p t k).ways.length = s.ways.length := by
  induction k with
  | zero => rfl
  | succ k ih => rw [NS.putN, put_ways_len, ih]
theorem putN_time (s : NS) (p : Pk) (t : Nat) (k : Nat) : (s.putN p t k).time = s.time := by
  induction k with
  | zero => rfl
  | succ k ih => rw [NS.putN]; exact ih
theorem putN_fates (s : NS) (p : Pk) (t : Nat) (k : Nat) : (s.putN p t k).fates = s.fates := by
  induction k with
  | zero => rfl
  | succ k ih => rw [NS.putN]; exact ih
theorem putN_number (s : NS) (p : Pk) (t : Nat) (k : Nat) : (s.putN p t k).number = s.number + k := by
  induction k with
  | zero => rfl
  | succ k ih => rw [NS.putN]; show (s.putN p t k).number + 1 = _; rw [ih]; rfl
theorem putN_count (s : NS) (p : Pk) (t : Nat) (k : Nat) : (s.putN p t k).count = s.count + k := by
  induction k with
  | zero => rfl
  | succ k ih => rw [NS.putN]; show (s.putN p t k).count + 1 = _; rw [ih]; rfl

theorem put_wf {s : NS} (h : s.Wf) (p : Pk) (t : Nat) (hd : p.dst.toNat < s.ways.length) (hc : s.count < 4000) : (s.put p t).Wf := by
  refine ⟨by rw [put_ways_len]; exact h.n1, by rw [put_ways_len]; exact h.n12, ?_, by show s.count + 1 ≤ 4000; omega, ?_, ?_, h.fr⟩
  · have h1 := sum_len_set s.ways p.dst.toNat (insC (s.way p.dst.toNat) ⟨p, t, s.number⟩) hd
    rw [insC_len, ← h.cnt] at h1
    show s.count + 1 = ((s.ways.set _ _).map List.length).sum
    unfold NS.way at h1
    unfold NS.way
    omega
  · intro l hl
    rcases List.mem_or_eq_of_mem_set hl with hl | rfl
    · exact h.srt l hl
    · exact insC_sorted _ (h.srt _ (NS.way_mem hd))
  · intro l hl c hc
    show c.k < s.number + 1
    rcases List.mem_or_eq_of_mem_set hl with hl | rfl
    · exact Nat.lt_succ_of_lt (h.num l hl c hc)
    · rcases insC_mem.1 hc with rfl | hc
      · exact Nat.lt_succ_self _
      · exact Nat.lt_succ_of_lt (h.num _ (NS.way_mem hd) c hc)
theorem putN_wf {s : NS} (h : s.Wf) (p : Pk) (t : Nat) (hd : p.dst.toNat < s.ways.length) (k : Nat) (hc : s.count + k ≤ 4000) : (s.putN p t k).Wf := by
  induction k with
  | zero => exact h
  | succ k ih =>
    rw [NS.putN]
    exact put_wf (ih (by omega)) p t (by rw [putN_ways_len]; exact hd) (by rw [putN_count]; omega)

/-! ### Send -/
def NS.fate (s : NS) : Fa := s.fates.headD Fa.one
def NS.next (s : NS) : NS := { s with fates := s.fates.tail }
def NS.arg (s : NS) (p : Pk) : Bool := s.has p.src && s.has p.dst && decide (p.src ≠ p.dst)
def NS.send (s : NS) (p : Pk) : NS × Int :=
  if s.arg p = false then (s, 1)
  else if 4000 < s.count + s.fate.many then (s, 3)
  else (s.next.putN p (s.time + s.fate.delay.toNat) s.fate.many, 0)

theorem NS.fate_right {s : NS} (h : s.Wf) : s.fate.right = true := by
  unfold NS.fate
  cases hf : s.fates with
  | nil => rfl
  | cons x l => exact h.fr x (by rw [hf]; simp)
theorem Fa.many_le {f : Fa} (h : f.right = true) : f.many ≤ 9 := by
  unfold Fa.many
  split
  · omega
  · rename_i hl
    simp only [Fa.right, hl, Bool.false_or, decide_eq_true_eq] at h
    omega
theorem next_wf {s : NS} (h : s.Wf) : s.next.Wf := ⟨h.n1, h.n12, h.cnt, h.lim, h.srt, h.num, fun f hf => h.fr f (List.mem_of_mem_tail hf)⟩
theorem has_lt {s : NS} {x : Int} (h : s.has x = true) : x.toNat < s.ways.length := by
  simp only [NS.has, decide_eq_true_eq] at h; omega
theorem send_wf {s : NS} (h : s.Wf) (p : Pk) : (s.send p).1.Wf := by
  unfold NS.send
  split
  · exact h
  · rename_i ha
    split
    · exact h
    · have ha : s.arg p = true := by simpa using ha
      simp only [NS.arg, Bool.and_eq_true] at ha
      exact putN_wf (next_wf h) p _ (has_lt ha.1.2) _ (by show s.count + _ ≤ 4000; omega)
theorem recv_wf {s : NS} (h : s.Wf) (i : Nat) (hi : i < s.ways.length) : (s.recv i).Wf := by
  have hle := s.taken_le i
  have h1 := sum_len_set s.ways i ((s.way i).drop (s.taken i).length) hi
  have h2 := h.way_le i
  refine ⟨by simp [NS.recv]; exact h.n1, by simp [NS.recv]; exact h.n12, ?_, by show s.count - _ ≤ 4000; have := h.lim; omega, ?_, ?_, h.fr⟩
  · show s.count - _ = ((s.ways.set _ _).map List.length).sum
    rw [List.length_drop, ← h.cnt] at h1
    unfold NS.way at h1 h2 hle ⊢
    omega
  · intro l hl
    rcases List.mem_or_eq_of_mem_set hl with hl | rfl
    · exact h.srt l hl
    · exact (h.srt _ (NS.way_mem hi)).sublist (List.drop_sublist _ _)
  · intro l hl c hc
    rcases List.mem_or_eq_of_mem_set hl with hl | rfl
    · exact h.num l hl c hc
    · exact h.num _ (NS.way_mem hi) c (List.mem_of_mem_drop hc)
theorem step_wf {s : NS} (h : s.Wf) : s.step.Wf := ⟨h.n1, h.n12, h.cnt, h.lim, h.srt, h.num, h.fr⟩
theorem new_wf {n : Nat} (h1 : 1 ≤ n) (h2 : n ≤ 12) {l : List Fa} (hr : rightB l = true) : (NS.new n l).Wf := by
  refine ⟨by simpa [NS.new] using h1, by simpa [NS.new] using h2, ?_, by simp [NS.new], ?_, ?_, fun f hf => List.all_eq_true.1 hr f hf⟩
  · simp [NS.new, List.map_replicate]
  · intro l hl
    simp only [NS.new, List.mem_replicate] at hl
    rw [hl.2]; exact List.Pairwise.nil
  · intro l hl c hc
    simp only [NS.new, List.mem_replicate] at hl
    rw [hl.2] at hc; simp at hc
end Go.Proofs.Ytlmfgdibodpniaa
