/- NetworkHouses and NetworkFates, plain. -/
import Derived.Test.YtlmfgdibodpniaaEnds
namespace Go.Proofs.Ytlmfgdibodpniaa

/-! ### Without the Receives of other houses -/
def keepB (h : Nat) (o : OpR) : Bool := decide (o.kind ≠ 1) || decide (o.house = (h : Int))

structure Sim (h : Nat) (s s' : PS) : Prop where
  used : s'.used = s.used
  fat : s'.net.fates = s.net.fates
  time : s'.net.time = s.net.time
  num : s'.net.number = s.net.number
  len : s'.net.ways.length = s.net.ways.length
  way : s'.net.way h = s.net.way h
  glen : s'.bk.got.length = s.bk.got.length
  got : s'.bk.got.getD h [] = s.bk.got.getD h []
  sent : s'.bk.sent = s.bk.sent
  wf : s.net.Wf
  wf' : s'.net.Wf
  cn : s.net.count ≤ s.net.number
  cn' : s'.net.count ≤ s'.net.number

theorem sim_putN {s s' : NS} (h : Nat) (hl : s'.ways.length = s.ways.length) (hw : s'.way h = s.way h) (hn : s'.number = s.number) (p : Pk) (t m : Nat) (hd : p.dst.toNat < s.ways.length) : (s'.putN p t m).way h = (s.putN p t m).way h := by
  induction m with
  | zero => exact hw
  | succ m ih =>
    rw [NS.putN, NS.putN]
    by_cases e : p.dst.toNat = h
    · subst e
      rw [put_way_self _ _ _ (by rw [putN_ways_len, hl]; exact hd), put_way_self _ _ _ (by rw [putN_ways_len]; exact hd), ih, putN_number, putN_number, hn]
    · rw [put_way_ne _ _ _ _ e, put_way_ne _ _ _ _ e, ih]

theorem send_cn {s : NS} (h : s.count ≤ s.number) (p : Pk) : (s.send p).1.count ≤ (s.send p).1.number := by
  by_cases he : (s.send p).2 = 0
  · obtain ⟨-, -, hs⟩ := send_ok he
    rw [hs, putN_count, putN_number]
    show s.count + _ ≤ s.number + _
    omega
  · rw [send_no he]; exact h

theorem sim_send {h : Nat} {s s' : PS} (H : Sim h s s') (p : Pk) (hb : s.net.number + 9 ≤ 4000) : (s'.net.send p).2 = (s.net.send p).2 ∧ (s'.net.send p).1.fates = (s.net.send p).1.fates ∧ (s'.net.send p).1.time = (s.net.send p).1.time ∧ (s'.net.send p).1.number = (s.net.send p).1.number ∧ (s'.net.send p).1.way h = (s.net.send p).1.way h := by
  have hf : s'.net.fate = s.net.fate := by unfold NS.fate; rw [H.fat]
  have hm := Fa.many_le (NS.fate_right H.wf)
  have ha : s'.net.arg p = s.net.arg p := by unfold NS.arg NS.has; rw [H.len]
  have l1 : ¬ 4000 < s.net.count + s.net.fate.many := by have := H.cn; omega
  have l2 : ¬ 4000 < s'.net.count + s'.net.fate.many := by have := H.cn'; have := H.num; rw [hf]; omega
  unfold NS.send
  rw [ha]
  by_cases e : s.net.arg p = false
  · rw [if_pos e, if_pos e]
    exact ⟨rfl, H.fat, H.time, H.num, H.way⟩
  · rw [if_neg e, if_neg e, if_neg l1, if_neg l2, hf, H.time]
    have e : s.net.arg p = true := by simpa using e
    have hd := arg_dst e
    refine ⟨rfl, ?_, ?_, ?_, ?_⟩
    · rw [putN_fates, putN_fates]; show s'.net.fates.tail = s.net.fates.tail; rw [H.fat]
    · rw [putN_time, putN_time]; exact H.time
    · rw [putN_number, putN_number]; show s'.net.number + _ = s.net.number + _; rw [H.num]
    · exact sim_putN (s := s.net.next) (s' := s'.net.next) h H.len H.way H.num p _ _ (by show p.dst.toNat < s.net.ways.length; omega)

theorem sim_keep {fs : List Fa} {h : Nat} {s s' : PS} (H : Sim h s s') (hlt : h < s.net.ways.length) (hg : h < s.bk.got.length) (o : OpR) (hb : s.net.number + 9 ≤ 4000) (hk : keepB h o = true) : Sim h (s.step fs o) (s'.step fs o) := by
  unfold PS.step
  by_cases k0 : o.kind = 0
  · rw [if_pos k0, if_pos k0]
    obtain ⟨e1, e2, e3, e4, e5⟩ := sim_send H o.p hb
    rw [e1]
    by_cases hr : (s.net.send o.p).2 = 0
    · rw [if_pos hr, if_pos hr]
      refine ⟨by show s'.used + 1 = s.used + 1; rw [H.used], e2, e3, e4, by rw [send_ways, send_ways]; exact H.len, e5, H.glen, H.got, ?_, send_wf H.wf _, send_wf H.wf' _, send_cn H.cn _, send_cn H.cn' _⟩
      show s'.bk.sent ++ _ = s.bk.sent ++ _
      rw [H.sent, H.used]
    · rw [if_neg hr, if_neg hr]
      exact ⟨H.used, e2, e3, e4, by rw [send_ways, send_ways]; exact H.len, e5, H.glen, H.got, H.sent, send_wf H.wf _, send_wf H.wf' _, send_cn H.cn _, send_cn H.cn' _⟩
  · rw [if_neg k0, if_neg k0]
    by_cases k1 : o.kind = 1
    · rw [if_pos k1, if_pos k1]
      have hh : o.house = (h : Int) := by simpa [keepB, k1] using hk
      have hhas : s.net.has o.house = true := by rw [hh]; simp [NS.has, hlt]
      have hhas' : s'.net.has o.house = true := by rw [hh]; simp [NS.has, H.len, hlt]
      rw [if_pos hhas, if_pos hhas']
      have hn : o.house.toNat = h := by omega
      rw [hn]
      have ht : s'.net.taken h = s.net.taken h := by unfold NS.taken; rw [H.way, H.time]
      have hgt : s'.net.got h = s.net.got h := by unfold NS.got; rw [ht]
      refine ⟨H.used, H.fat, H.time, H.num, by rw [recv_ways, recv_ways]; exact H.len, ?_, by simp [Bk.recv]; exact H.glen, ?_, H.sent, recv_wf H.wf _ hlt, recv_wf H.wf' _ (by rw [H.len]; exact hlt), Nat.le_trans (Nat.sub_le _ _) H.cn, Nat.le_trans (Nat.sub_le _ _) H.cn'⟩
      · rw [recv_way_self hlt, recv_way_self (by rw [H.len]; exact hlt), H.way, ht]
      · show (s'.bk.got.set h _).getD h [] = (s.bk.got.set h _).getD h []
        rw [getD_set_self _ _ _ _ hg, getD_set_self _ _ _ _ (by rw [H.glen]; exact hg), H.got, hgt]
    · rw [if_neg k1, if_neg k1]
      exact ⟨H.used, H.fat, by show s'.net.time + 1 = s.net.time + 1; rw [H.time], H.num, H.len, H.way, H.glen, H.got, H.sent, step_wf H.wf, step_wf H.wf', H.cn, H.cn'⟩

theorem sim_drop {fs : List Fa} {h : Nat} {s s' : PS} (H : Sim h s s') (o : OpR) (hk : keepB h o = false) : Sim h (s.step fs o) s' := by
  have hk1 : o.kind = 1 ∧ o.house ≠ (h : Int) := by simpa [keepB] using hk
  unfold PS.step
  rw [if_neg (by rw [hk1.1]; decide), if_pos hk1.1]
  by_cases hhas : s.net.has o.house = true
  · rw [if_pos hhas]
    have h0 : 0 ≤ o.house := by simp only [NS.has, decide_eq_true_eq] at hhas; omega
    have hne : o.house.toNat ≠ h := by omega
    exact ⟨H.used, H.fat, H.time, H.num, by rw [recv_ways]; exact H.len, by rw [recv_way_ne hne]; exact H.way, by simp [Bk.recv]; exact H.glen, by show _ = (s.bk.got.set _ _).getD h []; rw [getD_set_ne _ _ _ _ _ hne]; exact H.got, H.sent, recv_wf H.wf _ (has_lt hhas), H.wf', Nat.le_trans (Nat.sub_le _ _) H.cn, H.cn'⟩
  · rw [if_neg hhas]; exact H

theorem step_number {fs : List Fa} {s : PS} (h : s.net.Wf) (o : OpR) : (s.step fs o).net.number ≤ s.net.number + 9 := by
  unfold PS.step
  split
  · split
    · exact send_number _ h _
    · exact send_number _ h _
  · split
    · split
      · exact Nat.le_add_right _ _
      · exact Nat.le_add_right _ _
    · exact Nat.le_add_right _ _
theorem step_lens {fs : List Fa} {s : PS} (o : OpR) : (s.step fs o).net.ways.length = s.net.ways.length ∧ (s.step fs o).bk.got.length = s.bk.got.length := by
  unfold PS.step
  split
  · split
    · exact ⟨send_ways _ _, rfl⟩
    · exact ⟨send_ways _ _, rfl⟩
  · split
    · split
      · exact ⟨recv_ways _ _, by simp [Bk.recv]⟩
      · exact ⟨rfl, rfl⟩
    · exact ⟨rfl, rfl⟩

theorem houses_run {fs : List Fa} {h : Nat} (l : List OpR) : ∀ {s s' : PS}, Sim h s s' → h < s.net.ways.length → h < s.bk.got.length → s.net.number + 9 * l.length ≤ 4000 → Sim h (PS.run fs s l) (PS.run fs s' (l.filter (keepB h))) := by
  induction l with
  | nil => intro s s' H _ _ _; exact H
  | cons o l ih =>
    intro s s' H hlt hg hb
    simp only [List.length_cons] at hb
    have h1 := step_number (fs := fs) H.wf o
    have h2 := step_lens (fs := fs) (s := s) o
    rw [PS.run_cons]
    by_cases hk : keepB h o = true
    · rw [List.filter_cons_of_pos hk, PS.run_cons]
      exact ih (sim_keep H hlt hg o (by omega) hk) (by rw [h2.1]; exact hlt) (by rw [h2.2]; exact hg) (by omega)
    · rw [List.filter_cons_of_neg hk]
      exact ih (sim_drop H o (by simpa using hk)) (by rw [h2.1]; exact hlt) (by rw [h2.2]; exact hg) (by omega)

theorem houses {m h : Nat} {fs : List Fa} (h1 : 1 ≤ m) (h2 : m ≤ 12) (hr : rightB fs = true) (hm : h < m) (l : List OpR) (hl : l.length ≤ 200) :
    (PS.run fs (start m fs) (l.filter (keepB h))).bk.got.getD h [] = (PS.run fs (start m fs) l).bk.got.getD h [] ∧ (PS.run fs (start m fs) (l.filter (keepB h))).bk.sent = (PS.run fs (start m fs) l).bk.sent := by
  have hw := (start_inv h1 h2 hr).wf
  have H0 : Sim h (start m fs) (start m fs) := ⟨rfl, rfl, rfl, rfl, rfl, rfl, rfl, rfl, rfl, hw, hw, Nat.le_refl _, Nat.le_refl _⟩
  have H := houses_run (fs := fs) l H0 (by simp [start, NS.new]; exact hm) (by simp [start]; exact hm) (by show 0 + 9 * l.length ≤ 4000; omega)
  exact ⟨H.got, H.sent⟩

/-! ### Fates that are not used -/
structure Twin (s s' : PS) : Prop where
  used : s'.used = s.used
  ways : s'.net.ways = s.net.ways
  time : s'.net.time = s.net.time
  num : s'.net.number = s.net.number
  count : s'.net.count = s.net.count
  bk : s'.bk = s.bk

theorem putN_twin {a b : NS} (hw : b.ways = a.ways) (hn : b.number = a.number) (hc : b.count = a.count) (ht : b.time = a.time) (p : Pk) (t m : Nat) :
    (b.putN p t m).ways = (a.putN p t m).ways ∧ (b.putN p t m).number = (a.putN p t m).number ∧ (b.putN p t m).count = (a.putN p t m).count ∧ (b.putN p t m).time = (a.putN p t m).time := by
  induction m with
  | zero => exact ⟨hw, hn, hc, ht⟩
  | succ m ih =>
    obtain ⟨i1, i2, i3, i4⟩ := ih
    rw [NS.putN, NS.putN]
    unfold NS.put NS.way
    simp only
    rw [i1, i2, i3, i4]
    exact ⟨rfl, rfl, rfl, rfl⟩

theorem twin_step {fs gs : List Fa} {s s' : PS} (H : Twin s s') (hf : s'.net.fate = s.net.fate) (hm : manyAt gs s.used = manyAt fs s.used) (o : OpR) : Twin (s.step fs o) (s'.step gs o) := by
  unfold PS.step
  by_cases k0 : o.kind = 0
  · rw [if_pos k0, if_pos k0]
    have ha : s'.net.arg o.p = s.net.arg o.p := by unfold NS.arg NS.has; rw [H.ways]
    unfold NS.send
    rw [ha, hf, H.count, H.time]
    by_cases e : s.net.arg o.p = false
    · rw [if_pos e, if_pos e, if_neg (show ¬ (1 : Int) = 0 by decide), if_neg (show ¬ (1 : Int) = 0 by decide)]
      exact H
    · rw [if_neg e, if_neg e]
      by_cases e2 : 4000 < s.net.count + s.net.fate.many
      · rw [if_pos e2, if_pos e2, if_neg (show ¬ (3 : Int) = 0 by decide), if_neg (show ¬ (3 : Int) = 0 by decide)]
        exact H
      · rw [if_neg e2, if_neg e2, if_pos rfl, if_pos rfl]
        obtain ⟨i1, i2, i3, i4⟩ := putN_twin (a := s.net.next) (b := s'.net.next) H.ways H.num H.count H.time o.p (s.net.time + s.net.fate.delay.toNat) s.net.fate.many
        exact ⟨by show s'.used + 1 = s.used + 1; rw [H.used], i1, i4, i2, i3, by show s'.bk.send _ _ = s.bk.send _ _; rw [H.bk, H.used, hm]⟩
  · rw [if_neg k0, if_neg k0]
    by_cases k1 : o.kind = 1
    · rw [if_pos k1, if_pos k1]
      have hh : s'.net.has o.house = s.net.has o.house := by unfold NS.has; rw [H.ways]
      have hw : ∀ i, s'.net.way i = s.net.way i := fun i => by unfold NS.way; rw [H.ways]
      have ht : ∀ i, s'.net.taken i = s.net.taken i := fun i => by unfold NS.taken; rw [hw, H.time]
      rw [hh]
      by_cases e : s.net.has o.house = true
      · rw [if_pos e, if_pos e]
        refine ⟨H.used, ?_, H.time, H.num, ?_, ?_⟩
        · show s'.net.ways.set _ _ = s.net.ways.set _ _
          rw [H.ways, hw, ht]
        · show s'.net.count - _ = s.net.count - _
          rw [H.count, ht]
        · show s'.bk.recv _ _ = s.bk.recv _ _
          unfold NS.got
          rw [H.bk, ht]
      · rw [if_neg e, if_neg e]; exact H
    · rw [if_neg k1, if_neg k1]
      exact ⟨H.used, H.ways, by show s'.net.time + 1 = s.net.time + 1; rw [H.time], H.num, H.count, H.bk⟩

def sends (l : List OpR) : Nat := l.countP (fun o => decide (o.kind = 0))
def longF (fs gs : List Fa) (l : List OpR) : List Fa := fs ++ List.replicate (sends l - fs.length) Fa.one ++ gs

theorem longF_get (fs gs : List Fa) (l : List OpR) (u : Nat) (hu : u < sends l) : (longF fs gs l).getD u Fa.one = fs.getD u Fa.one := by
  unfold longF
  rw [List.getD_eq_getElem?_getD, List.getD_eq_getElem?_getD]
  by_cases h : u < fs.length
  · rw [List.append_assoc, List.getElem?_append_left h]
  · rw [List.getElem?_append_left (by simp; omega), List.getElem?_append_right (by omega), List.getElem?_replicate, if_pos (by omega), List.getElem?_eq_none (by omega)]
    rfl

theorem step_used {fs : List Fa} {s : PS} (o : OpR) : (s.step fs o).used ≤ s.used + if o.kind = 0 then 1 else 0 := by
  unfold PS.step
  split
  · split
    · exact Nat.le_refl _
    · exact Nat.le_add_right _ _
  · split
    · split
      · exact Nat.le_refl _
      · exact Nat.le_refl _
    · exact Nat.le_refl _

theorem twin_run {fs gs : List Fa} {n N : Nat} (hget : ∀ u, u < N → gs.getD u Fa.one = fs.getD u Fa.one) (l : List OpR) : ∀ {s s' : PS}, Inv fs n s → Inv gs n s' → Twin s s' → s.used + sends l ≤ N → Twin (PS.run fs s l) (PS.run gs s' l) := by
  induction l with
  | nil => intro s s' _ _ H _; exact H
  | cons o l ih =>
    intro s s' I I' H hN
    rw [PS.run_cons, PS.run_cons]
    have hu := step_used (fs := fs) (s := s) o
    have hs : sends (o :: l) = sends l + if o.kind = 0 then 1 else 0 := by
      unfold sends
      rw [List.countP_cons]
      simp
    have fate_eq : s.used < N → s'.net.fate = s.net.fate := by
      intro hlt
      unfold NS.fate
      rw [I.fat, I'.fat, H.used]
      have := hget s.used hlt
      rw [List.getD_eq_getElem?_getD, List.getD_eq_getElem?_getD] at this
      rw [List.headD_eq_head?_getD, List.headD_eq_head?_getD, List.head?_drop, List.head?_drop]
      exact this
    have T : Twin (s.step fs o) (s'.step gs o) := by
      by_cases k0 : o.kind = 0
      · have hlt : s.used < N := by rw [if_pos k0] at hs; omega
        exact twin_step H (fate_eq hlt) (by unfold manyAt; rw [hget _ hlt]) o
      · unfold PS.step
        rw [if_neg k0, if_neg k0]
        have e0 := twin_step (fs := fs) (gs := fs) (s := s) (s' := { s' with net := { s'.net with fates := s.net.fates } }) ⟨H.used, H.ways, H.time, H.num, H.count, H.bk⟩ rfl rfl o
        unfold PS.step at e0
        rw [if_neg k0, if_neg k0] at e0
        by_cases k1 : o.kind = 1
        · rw [if_pos k1, if_pos k1] at e0 ⊢
          have hh : s'.net.has o.house = s.net.has o.house := by unfold NS.has; rw [H.ways]
          have hh2 : ({ s'.net with fates := s.net.fates } : NS).has o.house = s.net.has o.house := by unfold NS.has; rw [show ({ s'.net with fates := s.net.fates } : NS).ways = s'.net.ways from rfl, H.ways]
          simp only [hh, hh2] at e0 ⊢
          by_cases e : s.net.has o.house = true
          · rw [if_pos e, if_pos e] at e0 ⊢
            exact ⟨e0.used, e0.ways, e0.time, e0.num, e0.count, e0.bk⟩
          · rw [if_neg e, if_neg e]; exact H
        · rw [if_neg k1, if_neg k1] at e0 ⊢
          exact ⟨e0.used, e0.ways, e0.time, e0.num, e0.count, e0.bk⟩
    exact ih (step_inv I o) (step_inv I' o) T (by omega)

theorem rightB_append {a b : List Fa} : rightB (a ++ b) = (rightB a && rightB b) := by unfold rightB; rw [List.all_append]
theorem rightB_long {fs gs : List Fa} {l : List OpR} (h1 : rightB fs = true) (h2 : rightB gs = true) : rightB (longF fs gs l) = true := by
  unfold longF
  rw [rightB_append, rightB_append, h1, h2]
  have : rightB (List.replicate (sends l - fs.length) Fa.one) = true := by
    unfold rightB
    rw [List.all_eq_true]
    intro x hx
    rw [(List.mem_replicate.1 hx).2]; rfl
  rw [this]; rfl

theorem fates_law {m : Nat} {fs gs : List Fa} (h1 : 1 ≤ m) (h2 : m ≤ 12) (hr : rightB fs = true) (hr2 : rightB gs = true) (l : List OpR) : Twin (PS.run fs (start m fs) l) (PS.run (longF fs gs l) (start m (longF fs gs l)) l) :=
  twin_run (N := sends l) (fun u hu => longF_get fs gs l u hu) l (start_inv h1 h2 hr) (start_inv h1 h2 (rightB_long hr hr2)) ⟨rfl, rfl, rfl, rfl, rfl, rfl⟩ (by show 0 + sends l ≤ sends l; omega)
end Go.Proofs.Ytlmfgdibodpniaa
