/- The laws, plain: what play keeps true. -/
import Derived.Test.YtlmfgdibodpniaaHead
namespace Go.Proofs.Ytlmfgdibodpniaa

theorem getD_set_self {α : Type} (l : List α) (i : Nat) (x d : α) (h : i < l.length) : (l.set i x).getD i d = x := by
  rw [List.getD_eq_getElem?_getD, List.getElem?_set_self h]; rfl
theorem getD_set_ne {α : Type} (l : List α) (i j : Nat) (x d : α) (h : i ≠ j) : (l.set i x).getD j d = l.getD j d := by
  rw [List.getD_eq_getElem?_getD, List.getD_eq_getElem?_getD, List.getElem?_set_ne h]

theorem put_way_self (s : NS) (p : Pk) (t : Nat) (h : p.dst.toNat < s.ways.length) : (s.put p t).way p.dst.toNat = insC (s.way p.dst.toNat) ⟨p, t, s.number⟩ := getD_set_self _ _ _ _ h
theorem put_way_ne (s : NS) (p : Pk) (t h : Nat) (hne : p.dst.toNat ≠ h) : (s.put p t).way h = s.way h := getD_set_ne _ _ _ _ _ hne
theorem insC_count (l : List Cp) (x : Cp) (q : Pk) : ((insC l x).map Cp.p).count q = (l.map Cp.p).count q + if x.p = q then 1 else 0 := by
  have e : (l.map Cp.p).count q = ((l.take (posC l x.t)).map Cp.p).count q + ((l.drop (posC l x.t)).map Cp.p).count q := by
    rw [← List.count_append, ← List.map_append, List.take_append_drop]
  unfold insC
  rw [List.map_append, List.map_cons, List.count_append, List.count_cons, e]
  simp only [beq_iff_eq]
  omega
theorem putN_count_way (s : NS) (p : Pk) (t : Nat) (hd : p.dst.toNat < s.ways.length) (m h : Nat) (q : Pk) :
    (((s.putN p t m).way h).map Cp.p).count q = ((s.way h).map Cp.p).count q + if p.dst.toNat = h ∧ p = q then m else 0 := by
  induction m with
  | zero => simp [NS.putN]
  | succ m ih =>
    rw [NS.putN]
    by_cases e : p.dst.toNat = h
    · subst e
      rw [put_way_self _ _ _ (by rw [putN_ways_len]; exact hd), insC_count, ih]
      by_cases e2 : p = q
      · subst e2; simp; omega
      · simp [e2]
    · rw [put_way_ne _ _ _ _ e, ih]
      simp [e]

structure Inv (fs : List Fa) (n : Nat) (s : PS) : Prop where
  wf : s.net.Wf
  ways : s.net.ways.length = n
  got : s.bk.got.length = n
  fat : s.net.fates = fs.drop s.used
  cons : total s.bk + s.net.count = s.bk.sent.length
  cnt : ∀ h, h < n → ∀ q, (s.bk.got.getD h []).count q + ((s.net.way h).map Cp.p).count q = (s.bk.sent.filter (fun x : Pk => decide (x.dst = (h : Int)))).count q
  dst : ∀ p ∈ s.bk.sent, 0 ≤ p.dst ∧ p.dst < n

theorem Inv.fate {fs : List Fa} {n : Nat} {s : PS} (h : Inv fs n s) : s.net.fate.many = manyAt fs s.used := by
  unfold NS.fate manyAt
  rw [h.fat]
  congr 1
  rw [List.getD_eq_getElem?_getD, List.headD_eq_head?_getD, List.head?_drop]

theorem send_ok {s : NS} {p : Pk} (h : (s.send p).2 = 0) : s.arg p = true ∧ ¬ 4000 < s.count + s.fate.many ∧ (s.send p).1 = s.next.putN p (s.time + s.fate.delay.toNat) s.fate.many := by
  unfold NS.send at h ⊢
  by_cases ha : s.arg p = false
  · rw [if_pos ha] at h; cases h
  · rw [if_neg ha] at h ⊢
    by_cases hl : 4000 < s.count + s.fate.many
    · rw [if_pos hl] at h; cases h
    · rw [if_neg hl]
      exact ⟨by simpa using ha, hl, rfl⟩
theorem send_no {s : NS} {p : Pk} (h : (s.send p).2 ≠ 0) : (s.send p).1 = s := by
  unfold NS.send at h ⊢
  by_cases ha : s.arg p = false
  · rw [if_pos ha]
  · rw [if_neg ha] at h ⊢
    by_cases hl : 4000 < s.count + s.fate.many
    · rw [if_pos hl]
    · rw [if_neg hl] at h; exact absurd rfl h
theorem arg_dst {s : NS} {p : Pk} (h : s.arg p = true) : 0 ≤ p.dst ∧ p.dst < s.ways.length := by
  simp only [NS.arg, Bool.and_eq_true] at h
  have := h.1.2
  simpa [NS.has] using this

theorem count_filter_rep (p q : Pk) (m h : Nat) (h0 : 0 ≤ p.dst) : ((List.replicate m p).filter (fun x : Pk => decide (x.dst = (h : Int)))).count q = if p.dst.toNat = h ∧ p = q then m else 0 := by
  rw [List.filter_replicate]
  by_cases e : p.dst = h
  · have e1 : p.dst.toNat = h := by omega
    simp only [e, decide_true, if_true]
    by_cases e2 : p = q
    · subst e2; simp [e1, List.count_replicate_self]
    · simp [e2, List.count_replicate]
  · have e1 : ¬ p.dst.toNat = h := by omega
    simp [e, e1]

theorem total_set (gs : List (List Pk)) (i : Nat) (l : List Pk) (h : i < gs.length) : ((gs.set i l).map List.length).sum + (gs.getD i []).length = (gs.map List.length).sum + l.length := sum_len_set gs i l h

theorem step_inv {fs : List Fa} {n : Nat} {s : PS} (h : Inv fs n s) (o : OpR) : Inv fs n (s.step fs o) := by
  unfold PS.step
  split
  · split
    · rename_i he
      obtain ⟨ha, hlim, hs⟩ := send_ok he
      have hd := arg_dst ha
      have hdt : o.p.dst.toNat < s.net.ways.length := by omega
      have hm := h.fate
      refine ⟨send_wf h.wf _, by rw [send_ways]; exact h.ways, h.got, ?_, ?_, ?_, ?_⟩
      · simp only [hs]
        rw [putN_fates]
        show s.net.fates.tail = fs.drop (s.used + 1)
        rw [h.fat, List.tail_drop]
      · simp only [hs]
        rw [putN_count]
        show total s.bk + (s.net.count + s.net.fate.many) = (s.bk.sent ++ List.replicate _ _).length
        rw [List.length_append, List.length_replicate, ← hm]
        have := h.cons; omega
      · intro i hi q
        simp only [hs]
        rw [putN_count_way _ _ _ (by exact hdt)]
        show (s.bk.got.getD i []).count q + _ = ((s.bk.sent ++ List.replicate _ _).filter _).count q
        rw [List.filter_append, List.count_append, count_filter_rep _ _ _ _ hd.1, ← hm]
        have := h.cnt i hi q
        show _ + (((s.net.way i).map Cp.p).count q + _) = _
        omega
      · intro p hp
        show 0 ≤ p.dst ∧ p.dst < n
        rcases List.mem_append.1 hp with hp | hp
        · exact h.dst p hp
        · obtain ⟨_, rfl⟩ := List.mem_replicate.1 hp
          have := h.ways; omega
    · rename_i he
      have hs := send_no he
      simp only [hs]
      exact ⟨h.wf, h.ways, h.got, h.fat, h.cons, h.cnt, h.dst⟩
  · split
    · split
      · rename_i hh
        have hi := has_lt hh
        have hi' : o.house.toNat < s.bk.got.length := by rw [h.got, ← h.ways]; exact hi
        have hwl := s.net.taken_le o.house.toNat
        have hwc := h.wf.way_le o.house.toNat
        have hgl : (s.net.got o.house.toNat).length = (s.net.taken o.house.toNat).length := by simp [NS.got]
        refine ⟨recv_wf h.wf _ hi, by rw [recv_ways]; exact h.ways, by simp [Bk.recv]; exact h.got, h.fat, ?_, ?_, h.dst⟩
        · show total (s.bk.recv _ _) + (s.net.count - (s.net.taken o.house.toNat).length) = s.bk.sent.length
          have := total_set s.bk.got o.house.toNat (s.bk.got.getD o.house.toNat [] ++ s.net.got o.house.toNat) hi'
          rw [List.length_append, hgl] at this
          have h1 := h.cons
          unfold total Bk.recv at *
          simp only at *
          omega
        · intro i hin q
          show ((s.bk.got.set _ _).getD i []).count q + (((s.net.ways.set _ _).getD i []).map Cp.p).count q = (s.bk.sent.filter _).count q
          have h1 := h.cnt i hin q
          by_cases e : o.house.toNat = i
          · subst e
            rw [getD_set_self _ _ _ _ hi', getD_set_self _ _ _ _ hi, List.count_append]
            have e2 : ((s.net.way o.house.toNat).map Cp.p).count q = (s.net.got o.house.toNat).count q + (((s.net.way o.house.toNat).drop (s.net.taken o.house.toNat).length).map Cp.p).count q := by
              have e3 : s.net.got o.house.toNat = ((s.net.way o.house.toNat).take (s.net.taken o.house.toNat).length).map Cp.p := by
                unfold NS.got NS.taken; rw [← takeWhile_take]
              rw [e3, ← List.count_append, ← List.map_append, List.take_append_drop]
            omega
          · rw [getD_set_ne _ _ _ _ _ e, getD_set_ne _ _ _ _ _ e]
            exact h1
      · exact h
    · exact ⟨step_wf h.wf, h.ways, h.got, h.fat, h.cons, h.cnt, h.dst⟩
theorem run_inv {fs : List Fa} {n : Nat} (l : List OpR) : ∀ {s : PS}, Inv fs n s → Inv fs n (s.run fs l) := by
  induction l with
  | nil => intro s h; exact h
  | cons o l ih => intro s h; rw [PS.run_cons]; exact ih (step_inv h o)

def start (n : Nat) (fs : List Fa) : PS := ⟨NS.new n fs, 0, ⟨[], List.replicate n []⟩⟩
theorem start_inv {n : Nat} {fs : List Fa} (h1 : 1 ≤ n) (h2 : n ≤ 12) (hr : rightB fs = true) : Inv fs n (start n fs) := by
  refine ⟨new_wf h1 h2 hr, by simp [start, NS.new], by simp [start], rfl, ?_, ?_, by simp [start]⟩
  · simp [start, total, NS.new]
  · intro h hh q
    have e1 : (List.replicate n ([] : List Pk)).getD h [] = [] := by rw [List.getD_eq_getElem?_getD, List.getElem?_replicate]; split <;> rfl
    have e2 : (NS.new n fs).way h = [] := by unfold NS.way NS.new; rw [List.getD_eq_getElem?_getD, List.getElem?_replicate]; split <;> rfl
    show ((List.replicate n ([] : List Pk)).getD h []).count q + (((NS.new n fs).way h).map Cp.p).count q = (([] : List Pk).filter _).count q
    rw [e1, e2]; rfl

/-! ### NetworkInvents -/
theorem invents {fs : List Fa} {n : Nat} {s : PS} (h : Inv fs n s) (i : Nat) (hi : i < n) (p : Pk) (hp : p ∈ s.bk.got.getD i []) : p.dst = i ∧ (s.bk.got.getD i []).count p ≤ s.bk.sent.count p := by
  have h1 := h.cnt i hi p
  have h2 : 0 < (s.bk.got.getD i []).count p := List.count_pos_iff.2 hp
  have h3 : 0 < (s.bk.sent.filter (fun x : Pk => decide (x.dst = (i : Int)))).count p := by omega
  have h4 := List.count_pos_iff.1 h3
  rw [List.mem_filter] at h4
  refine ⟨by simpa using h4.2, ?_⟩
  have h5 : (s.bk.sent.filter (fun x : Pk => decide (x.dst = (i : Int)))).count p ≤ s.bk.sent.count p := List.Sublist.count_le _ List.filter_sublist
  omega
end Go.Proofs.Ytlmfgdibodpniaa
