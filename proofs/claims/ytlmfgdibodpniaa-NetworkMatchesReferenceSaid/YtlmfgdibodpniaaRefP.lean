/- The reference network, plain; it and the subject's go alike. -/
import Derived.Test.YtlmfgdibodpniaaEnds
namespace Go.Proofs.Ytlmfgdibodpniaa

abbrev Rc := Pk × Nat
structure RS where
  n : Nat
  fates : List Fa
  time : Nat
  cps : List Rc

def RS.has (r : RS) (x : Int) : Bool := decide (0 ≤ x ∧ x < r.n)
def RS.arg (r : RS) (p : Pk) : Bool := r.has p.src && r.has p.dst && decide (p.src ≠ p.dst)
def RS.fate (r : RS) : Fa := r.fates.headD Fa.one
def RS.send (r : RS) (p : Pk) : RS × Int :=
  if r.arg p = false then (r, 1)
  else if 4000 < r.cps.length + r.fate.many then (r, 3)
  else ({ r with fates := r.fates.tail, cps := r.cps ++ List.replicate r.fate.many (p, r.time + r.fate.delay.toNat) }, 0)
def RS.due (r : RS) (h : Nat) (c : Rc) : Bool := decide (c.1.dst = (h : Int)) && decide (c.2 ≤ r.time)
def RS.recv (r : RS) (h : Nat) : RS := { r with cps := r.cps.filter fun c => !r.due h c }
def ins (l : List Rc) (x : Rc) : List Rc := l.takeWhile (fun c => decide (c.2 ≤ x.2)) ++ x :: l.dropWhile (fun c => decide (c.2 ≤ x.2))
def isort (l : List Rc) : List Rc := l.foldl ins []
def RS.got (r : RS) (h : Nat) : List Pk := (isort (r.cps.filter (r.due h))).map Prod.fst
def RS.step (r : RS) : RS := { r with time := r.time + 1 }
def RS.new (n : Nat) (fs : List Fa) : RS := ⟨n, fs, 0, []⟩

def cpR (c : Cp) : Rc := (c.p, c.t)
structure Same (s : NS) (r : RS) : Prop where
  n : s.ways.length = r.n
  f : s.fates = r.fates
  t : s.time = r.time
  c : s.count = r.cps.length
  w : ∀ h, h < r.n → (s.way h).map cpR = isort (r.cps.filter fun c => decide (c.1.dst = (h : Int)))

theorem Same.has {s : NS} {r : RS} (H : Same s r) (x : Int) : s.has x = r.has x := by unfold NS.has RS.has; rw [H.n]
theorem Same.arg {s : NS} {r : RS} (H : Same s r) (p : Pk) : s.arg p = r.arg p := by unfold NS.arg RS.arg; rw [H.has, H.has]
theorem Same.fate {s : NS} {r : RS} (H : Same s r) : s.fate = r.fate := by unfold NS.fate RS.fate; rw [H.f]

theorem isort_snoc (l : List Rc) (x : Rc) : isort (l ++ [x]) = ins (isort l) x := by unfold isort; rw [List.foldl_append]; rfl
theorem insC_ins (l : List Cp) (x : Cp) : (insC l x).map cpR = ins (l.map cpR) (cpR x) := by
  unfold insC posC ins
  have e : ∀ l : List Cp, (l.map cpR).takeWhile (fun c => decide (c.2 ≤ (cpR x).2)) = (l.takeWhile fun c => decide (c.t ≤ x.t)).map cpR ∧ (l.map cpR).dropWhile (fun c => decide (c.2 ≤ (cpR x).2)) = (l.drop (l.takeWhile fun c => decide (c.t ≤ x.t)).length).map cpR ∧ l.take (l.takeWhile fun c => decide (c.t ≤ x.t)).length = l.takeWhile fun c => decide (c.t ≤ x.t) := by
    intro l
    induction l with
    | nil => exact ⟨rfl, rfl, rfl⟩
    | cons a l ih =>
      obtain ⟨i1, i2, i3⟩ := ih
      simp only [List.map_cons, List.takeWhile_cons, List.dropWhile_cons]
      by_cases h : a.t ≤ x.t
      · have h' : (cpR a).2 ≤ (cpR x).2 := h
        simp [h, h', i1, i2, i3]
      · have h' : ¬ (cpR a).2 ≤ (cpR x).2 := h
        simp [h, h']
  obtain ⟨e1, e2, e3⟩ := e l
  rw [e1, e2, List.map_append, List.map_cons, e3]

theorem same_putN {s : NS} {r : RS} (H : Same s r) (p : Pk) (t : Nat) (hd0 : 0 ≤ p.dst) (hd : p.dst < r.n) (m : Nat) (fs : List Fa) :
    Same ({ s with fates := fs }.putN p t m) { r with fates := fs, cps := r.cps ++ List.replicate m (p, t) } := by
  induction m with
  | zero => exact ⟨H.n, rfl, H.t, by simpa [NS.putN] using H.c, fun h hh => by
    show (s.way h).map cpR = isort ((r.cps ++ List.replicate 0 (p, t)).filter _)
    rw [List.replicate_zero, List.append_nil]; exact H.w h hh⟩
  | succ m ih =>
    rw [NS.putN]
    have hlen : p.dst.toNat < ({ s with fates := fs }.putN p t m).ways.length := by rw [ih.n]; show _ < r.n; omega
    refine ⟨by rw [put_ways_len]; exact ih.n, ih.f, ih.t, ?_, fun h hh => ?_⟩
    · show ({ s with fates := fs }.putN p t m).count + 1 = _
      rw [ih.c]; simp; omega
    · have ihw := ih.w h hh
      have e : r.cps ++ List.replicate (m + 1) (p, t) = (r.cps ++ List.replicate m (p, t)) ++ [(p, t)] := by rw [List.append_assoc, ← List.replicate_succ']
      show _ = isort ((r.cps ++ List.replicate (m + 1) (p, t)).filter _)
      rw [e, List.filter_append]
      by_cases hp : p.dst.toNat = h
      · subst hp
        have hpp : decide (p.dst = ((p.dst.toNat : Nat) : Int)) = true := by simp; omega
        rw [put_way_self _ _ _ hlen, insC_ins, ihw, List.filter_cons_of_pos (by simpa using hpp), List.filter_nil, isort_snoc]
        rfl
      · have hpp : ¬ p.dst = (h : Int) := by omega
        rw [put_way_ne _ _ _ _ hp, ihw, List.filter_cons_of_neg (by simpa using hpp), List.filter_nil, List.append_nil]

theorem same_send {s : NS} {r : RS} (H : Same s r) (p : Pk) : (s.send p).2 = (r.send p).2 ∧ Same (s.send p).1 (r.send p).1 := by
  unfold NS.send RS.send
  rw [H.arg, H.c, H.fate, H.t]
  by_cases e : r.arg p = false
  · rw [if_pos e, if_pos e]; exact ⟨rfl, H⟩
  · rw [if_neg e, if_neg e]
    split
    · exact ⟨rfl, H⟩
    · have e : r.arg p = true := by simpa using e
      simp only [RS.arg, RS.has, Bool.and_eq_true, decide_eq_true_eq] at e
      refine ⟨rfl, ?_⟩
      have := same_putN H p (r.time + r.fate.delay.toNat) e.1.2.1 e.1.2.2 r.fate.many s.fates.tail
      rw [H.f] at this
      show Same (s.next.putN _ _ _) _
      unfold NS.next
      rw [H.f]
      exact this

/-! ### Sorting and taking what is due -/
theorem ins_le {T : Nat} {l : List Rc} {x : Rc} (hx : x.2 ≤ T) (hs : l.Pairwise fun a b => a.2 ≤ b.2) :
    (ins l x).takeWhile (fun c => decide (c.2 ≤ T)) = ins (l.takeWhile fun c => decide (c.2 ≤ T)) x ∧ (ins l x).dropWhile (fun c => decide (c.2 ≤ T)) = l.dropWhile fun c => decide (c.2 ≤ T) := by
  induction l with
  | nil => simp [ins, hx]
  | cons a l ih =>
    obtain ⟨i1, i2⟩ := ih (List.pairwise_cons.1 hs).2
    unfold ins at i1 i2 ⊢
    by_cases h : a.2 ≤ x.2
    · have h2 : a.2 ≤ T := by omega
      simp [h, h2, i1, i2]
    · by_cases h2 : a.2 ≤ T
      · simp [h, h2, hx]
      · simp [h, h2, hx]
theorem ins_gt {T : Nat} {l : List Rc} {x : Rc} (hx : ¬ x.2 ≤ T) (hs : l.Pairwise fun a b => a.2 ≤ b.2) :
    (ins l x).takeWhile (fun c => decide (c.2 ≤ T)) = l.takeWhile (fun c => decide (c.2 ≤ T)) ∧ (ins l x).dropWhile (fun c => decide (c.2 ≤ T)) = ins (l.dropWhile fun c => decide (c.2 ≤ T)) x := by
  induction l with
  | nil => simp [ins, hx]
  | cons a l ih =>
    obtain ⟨i1, i2⟩ := ih (List.pairwise_cons.1 hs).2
    unfold ins at i1 i2 ⊢
    by_cases h : a.2 ≤ x.2
    · by_cases h2 : a.2 ≤ T
      · simp [h, h2, i1, i2]
      · simp [h, h2]
    · have h2 : ¬ a.2 ≤ T := by omega
      simp [h, h2, hx]
theorem ins_mem {l : List Rc} {x c : Rc} : c ∈ ins l x ↔ c = x ∨ c ∈ l := by
  unfold ins
  rw [List.mem_append, List.mem_cons]
  have : c ∈ l ↔ c ∈ l.takeWhile (fun c => decide (c.2 ≤ x.2)) ∨ c ∈ l.dropWhile (fun c => decide (c.2 ≤ x.2)) := by
    rw [← List.mem_append, List.takeWhile_append_dropWhile]
  rw [this]
  constructor <;> intro h <;> rcases h with h | h | h <;> simp [h]
theorem ins_sorted {l : List Rc} (x : Rc) (hs : l.Pairwise fun a b => a.2 ≤ b.2) : (ins l x).Pairwise fun a b => a.2 ≤ b.2 := by
  induction l with
  | nil => simp [ins]
  | cons a l ih =>
    have hc := List.pairwise_cons.1 hs
    by_cases h : a.2 ≤ x.2
    · have e : ins (a :: l) x = a :: ins l x := by simp [ins, h]
      rw [e]
      refine List.pairwise_cons.2 ⟨fun c hcm => ?_, ih hc.2⟩
      rcases ins_mem.1 hcm with rfl | hcm
      · exact h
      · exact hc.1 c hcm
    · have e : ins (a :: l) x = x :: a :: l := by simp [ins, h]
      rw [e]
      refine List.pairwise_cons.2 ⟨fun c hcm => ?_, hs⟩
      rcases List.mem_cons.1 hcm with rfl | hcm
      · omega
      · have := hc.1 c hcm; omega
theorem snoc_ind {α : Type} {P : List α → Prop} (h0 : P []) (h1 : ∀ l x, P l → P (l ++ [x])) (l : List α) : P l := by
  have key : ∀ l : List α, P l.reverse := by
    intro l
    induction l with
    | nil => exact h0
    | cons a l ih => rw [List.reverse_cons]; exact h1 _ _ ih
  have := key l.reverse
  rwa [List.reverse_reverse] at this
theorem isort_sorted (l : List Rc) : (isort l).Pairwise fun a b => a.2 ≤ b.2 := by
  refine snoc_ind (P := fun l => (isort l).Pairwise fun a b => a.2 ≤ b.2) List.Pairwise.nil (fun l x ih => ?_) l
  rw [isort_snoc]; exact ins_sorted x ih
theorem isort_due (T : Nat) (l : List Rc) : isort (l.filter fun c => decide (c.2 ≤ T)) = (isort l).takeWhile (fun c => decide (c.2 ≤ T)) ∧ isort (l.filter fun c => !decide (c.2 ≤ T)) = (isort l).dropWhile fun c => decide (c.2 ≤ T) := by
  refine snoc_ind (P := fun l => isort (l.filter fun c => decide (c.2 ≤ T)) = (isort l).takeWhile (fun c => decide (c.2 ≤ T)) ∧ isort (l.filter fun c => !decide (c.2 ≤ T)) = (isort l).dropWhile fun c => decide (c.2 ≤ T)) ⟨rfl, rfl⟩ (fun l x ih => ?_) l
  rw [List.filter_append, List.filter_append, isort_snoc]
  by_cases h : x.2 ≤ T
  · rw [List.filter_cons_of_pos (by simpa using h), List.filter_cons_of_neg (by simpa using h), List.filter_nil, List.filter_nil, List.append_nil, isort_snoc, (ins_le h (isort_sorted l)).1, (ins_le h (isort_sorted l)).2, ih.1, ih.2]
    exact ⟨rfl, rfl⟩
  · rw [List.filter_cons_of_neg (by simpa using h), List.filter_cons_of_pos (by simpa using h), List.filter_nil, List.filter_nil, List.append_nil, isort_snoc, (ins_gt h (isort_sorted l)).1, (ins_gt h (isort_sorted l)).2, ih.1, ih.2]
    exact ⟨rfl, rfl⟩

theorem takeWhile_cpR (T : Nat) (l : List Cp) : (l.map cpR).takeWhile (fun c => decide (c.2 ≤ T)) = (l.takeWhile fun c => decide (c.t ≤ T)).map cpR ∧ (l.map cpR).dropWhile (fun c => decide (c.2 ≤ T)) = (l.drop (l.takeWhile fun c => decide (c.t ≤ T)).length).map cpR := by
  induction l with
  | nil => exact ⟨rfl, rfl⟩
  | cons a l ih =>
    by_cases h : a.t ≤ T
    · have h' : (cpR a).2 ≤ T := h
      simp [h, h', ih.1, ih.2]
    · have h' : ¬ (cpR a).2 ≤ T := h
      simp [h, h']

theorem due_filter (r : RS) (h : Nat) : r.cps.filter (r.due h) = (r.cps.filter fun c => decide (c.1.dst = (h : Int))).filter fun c => decide (c.2 ≤ r.time) := by
  rw [List.filter_filter]
  congr 1
  funext c
  unfold RS.due
  rw [Bool.and_comm]
theorem same_got {s : NS} {r : RS} (H : Same s r) {h : Nat} (hh : h < r.n) : s.got h = r.got h := by
  unfold NS.got RS.got NS.taken
  rw [due_filter, (isort_due r.time _).1, ← H.w h hh, (takeWhile_cpR r.time _).1, List.map_map, H.t]
  rfl
theorem filter_len {α : Type} (p : α → Bool) (l : List α) : (l.filter fun x => !p x).length + (l.filter p).length = l.length := by
  induction l with
  | nil => rfl
  | cons a l ih =>
    by_cases h : p a = true
    · rw [List.filter_cons_of_neg (by simp [h]), List.filter_cons_of_pos h, List.length_cons, List.length_cons]; omega
    · rw [List.filter_cons_of_pos (by simpa using h), List.filter_cons_of_neg h, List.length_cons, List.length_cons]; omega
theorem ins_len (l : List Rc) (x : Rc) : (ins l x).length = l.length + 1 := by
  have := congrArg List.length (List.takeWhile_append_dropWhile (p := fun c : Rc => decide (c.2 ≤ x.2)) (l := l))
  rw [List.length_append] at this
  unfold ins
  rw [List.length_append, List.length_cons]
  omega
theorem isort_len (l : List Rc) : (isort l).length = l.length := by
  refine snoc_ind (P := fun l => (isort l).length = l.length) rfl (fun l x ih => ?_) l
  rw [isort_snoc, ins_len, ih]; simp
theorem same_recv {s : NS} {r : RS} (H : Same s r) {h : Nat} (hh : h < r.n) : Same (s.recv h) (r.recv h) := by
  have hlt : h < s.ways.length := by rw [H.n]; exact hh
  have htl : (s.taken h).length = (r.cps.filter (r.due h)).length := by
    have h1 := congrArg List.length (same_got H hh)
    unfold NS.got RS.got at h1
    rwa [List.length_map, List.length_map, isort_len] at h1
  refine ⟨by rw [recv_ways]; exact H.n, H.f, H.t, ?_, fun k hk => ?_⟩
  · show s.count - (s.taken h).length = (r.cps.filter fun c => !r.due h c).length
    have := filter_len (r.due h) r.cps
    rw [H.c, htl]; omega
  · show _ = isort ((r.cps.filter fun c => !r.due h c).filter _)
    by_cases e : h = k
    · subst e
      rw [recv_way_self hlt]
      have h2 := (takeWhile_cpR r.time (s.way h)).2
      unfold NS.taken
      rw [H.t, ← h2, H.w h hh, ← (isort_due r.time _).2, List.filter_filter, List.filter_filter]
      congr 2
      funext c
      unfold RS.due
      by_cases hd : c.1.dst = (h : Int) <;> simp [hd]
    · rw [recv_way_ne e, H.w k hk, List.filter_filter]
      congr 2
      funext c
      unfold RS.due
      by_cases hd : c.1.dst = (k : Int)
      · have : ¬ c.1.dst = (h : Int) := by omega
        simp [hd, show ¬ (k : Int) = (h : Int) by omega]
      · simp [hd]
theorem same_step {s : NS} {r : RS} (H : Same s r) : Same s.step r.step := ⟨H.n, H.f, by show s.time + 1 = r.time + 1; rw [H.t], H.c, H.w⟩
theorem same_new (n : Nat) (fs : List Fa) : Same (NS.new n fs) (RS.new n fs) := by
  refine ⟨by simp [NS.new, RS.new], rfl, rfl, rfl, fun h _ => ?_⟩
  have e2 : (NS.new n fs).way h = [] := by unfold NS.way NS.new; rw [List.getD_eq_getElem?_getD, List.getElem?_replicate]; split <;> rfl
  rw [e2]; rfl
end Go.Proofs.Ytlmfgdibodpniaa
