/- Plain facts for DiskPrefix: the writes that succeed, and what a failure leaves of them. -/
import Derived.Test.YtcihncgajkogkaaPlain
namespace Go.Proofs.Ytcihncgajkogkaa

def validA (n : Nat) (y : ActR) : Bool := decide (0 ≤ y.sector) && decide (y.sector < n) && decide (y.txt.size = 32)
def pendA (y : ActR) : Nat × ByteArray := (y.sector.toNat, y.txt)
/-- The state with these writes pending. -/
def DS.withV (S : DS) (V : List ActR) : DS := { S with q := V.map pendA }

theorem validA_iff (n : Nat) (y : ActR) : validA n y = true ↔ 0 ≤ y.sector ∧ y.sector < n ∧ y.txt.size = 32 := by
  simp [validA, and_assoc]

theorem filter_take (p : ActR → Bool) (L : List ActR) (k : Nat) (hk : k < L.length) : (L.take (k + 1)).filter p = (L.take k).filter p ++ (if p L[k] = true then [L[k]] else []) := by
  rw [List.take_succ_eq_append_getElem hk, List.filter_append]
  by_cases h : p L[k] = true <;> simp [h]

theorem filter_prefix (p : ActR → Bool) (L : List ActR) (k : Nat) : ∃ r, L.filter p = (L.take k).filter p ++ r := by
  refine ⟨(L.drop k).filter p, ?_⟩
  rw [← List.filter_append, List.take_append_drop]

theorem take_of_prefix {α : Type} {V W r : List α} (h : V = W ++ r) : V.take W.length = W := by
  rw [h, List.take_left']
  rfl

theorem withV_write (S : DS) (ho : S.off = false) (ha : S.armed = none) (V : List ActR) (y : ActR) (h : validA S.n y = true) : (S.withV V).write y.sector y.txt = (S.withV (V ++ [y]), 0) := by
  obtain ⟨h1, h2, h3⟩ := (validA_iff _ _).1 h
  obtain ⟨j, hj⟩ : ∃ j : Nat, y.sector = j := ⟨y.sector.toNat, by omega⟩
  rw [hj, write_ok (S.withV V) ho ha j (show j < S.n by omega) _ h3]
  have : j = y.sector.toNat := by omega
  simp [DS.push, DS.withV, pendA, this]
theorem withV_bad (S : DS) (ho : S.off = false) (V : List ActR) (y : ActR) (h : ¬ validA S.n y = true) : (S.withV V).write y.sector y.txt = (S.withV V, 1) :=
  write_bad (S.withV V) ho y.sector _ (fun hh => h ((validA_iff _ _).2 hh))

theorem withV_q (S : DS) (V : List ActR) : (S.withV V).q.length = V.length := by simp [DS.withV]

/-- What is read is what settling leaves. -/
theorem get_settle (st : List UInt8) (n : Nat) (hl : st.length = n * 32) (q : List (Nat × ByteArray)) (hq : ∀ p ∈ q, p.1 < n ∧ p.2.size = 32) (i : Nat) (hi : i < n) : (lastQ q i).getD (stAt st i) = stAt (settleL st q) i := by
  have key : ∀ (r : List (Nat × ByteArray)), (∀ p ∈ r, p.1 < n ∧ p.2.size = 32) → (lastQ r.reverse i).getD (stAt st i) = stAt (settleL st r.reverse) i := by
    intro r
    induction r with
    | nil => intro _; rfl
    | cons p r ih =>
      intro hp
      have h1 := hp p (by simp)
      have h2 := ih (fun x hx => hp x (by simp [hx]))
      have hs : (settleL st r.reverse).length = n * 32 := settle_len _ _ _ hl (fun x hx => hp x (by simp at hx; simp [hx]))
      have h32 : p.2.data.toList.length = 32 := by simpa using h1.2
      rw [List.reverse_cons, lastQ_snoc, settle_snoc]
      by_cases he : p.1 = i
      · subst he
        rw [if_pos rfl, stAt_splice_eq h1.2 (by rw [hs]; omega)]
        rfl
      · rw [if_neg he, stAt_splice_ne (by omega) (by rw [hs]; omega) he]
        exact h2
  have := key q.reverse (by simpa using hq)
  simpa using this

theorem get_all (s : DS) (hw : s.Wf) (i : Nat) (hi : i < s.n) : s.get i = stAt (settleL s.st s.q) i := get_settle s.st s.n hw.len s.q hw.q i hi

theorem stAt_splice_part {st : List UInt8} {p b : Nat} {t : ByteArray} (ht : t.size = 32) (hb : b ≤ 32) (h : p * 32 + 32 ≤ st.length) :
    stAt (splice st (p * 32) (t.data.toList.take b)) p = t.extract 0 b ++ (stAt st p).extract b (stAt st p).size := by
  have hl : t.data.toList.length = 32 := by simpa using ht
  have hS : (stAt st p).size = 32 := by
    show ((st.drop (p * 32)).take 32).toArray.size = 32
    rw [List.size_toArray, List.length_take, List.length_drop]; omega
  have hd : (stAt st p).data.toList = (st.drop (p * 32)).take 32 := rfl
  have e : ((splice st (p * 32) (t.data.toList.take b)).drop (p * 32)).take 32 = t.data.toList.take b ++ ((st.drop (p * 32)).take 32).drop b := by
    unfold splice
    have h1 : (t.data.toList.take b).length = b := by rw [List.length_take]; omega
    rw [List.drop_left' (by rw [List.length_take]; omega), List.take_append, h1, List.take_of_length_le (by omega), ← List.drop_drop, List.drop_take]
  have : (stAt (splice st (p * 32) (t.data.toList.take b)) p).data.toList = (t.extract 0 b ++ (stAt st p).extract b (stAt st p).size).data.toList := by
    show ((splice st (p * 32) (t.data.toList.take b)).drop (p * 32)).take 32 = _
    rw [e, ByteArray.data_append, Array.toList_append, ByteArray.data_extract, ByteArray.data_extract, Array.toList_extract, Array.toList_extract, hd, hS]
    simp only [List.extract_eq_take_drop, Nat.sub_zero, List.drop_zero]
    congr 1
    exact (List.take_of_length_le (by rw [List.length_drop, List.length_take]; omega)).symm
  cases h1 : stAt (splice st (p * 32) (t.data.toList.take b)) p
  rw [h1] at this
  cases h2 : t.extract 0 b ++ (stAt st p).extract b (stAt st p).size
  rw [h2] at this
  congr
  exact Array.toList_inj.1 this

/-- A torn failure, sector by sector. -/
theorem fail_get (s : DS) (hw : s.Wf) (ho : s.off = false) (m b : Nat) (hb : b ≤ 32) (i : Nat) (hi : i < s.n) :
    (s.fail m b).start.get i = (match s.q[m]? with
      | some p => if p.1 = i then p.2.extract 0 b ++ (stAt (settleL s.st (s.q.take m)) i).extract b (stAt (settleL s.st (s.q.take m)) i).size else stAt (settleL s.st (s.q.take m)) i
      | none => stAt (settleL s.st (s.q.take m)) i) := by
  have h1 : (s.fail m b) = { s with st := s.failSt m b, q := [], off := true, armed := none } := by rw [DS.fail, if_neg (by simp [ho])]
  rw [h1]
  show (lastQ [] i).getD (stAt (s.failSt m b) i) = _
  rw [lastQ_nil]
  show stAt (s.failSt m b) i = _
  have hcut : cutB b = b := by unfold cutB; omega
  have hlen : ∀ k, (settleL s.st (s.q.take k)).length = s.n * 32 := fun k => settle_len _ _ _ hw.len fun p hp => hw.q p (List.mem_of_mem_take hp)
  unfold DS.failSt
  simp only [Int.toNat_natCast, hcut]
  by_cases hm : m < s.q.length
  · have e : min m s.q.length = m := by omega
    rw [e, List.getElem?_eq_getElem hm]
    simp only
    have h2 := hw.q _ (List.getElem_mem hm)
    have h3 : (s.q[m]).2.data.toList.length = 32 := by simpa using h2.2
    by_cases he : s.q[m].1 = i
    · rw [if_pos he, ← he]
      exact stAt_splice_part h2.2 hb (by rw [hlen]; omega)
    · rw [if_neg he]
      exact stAt_splice_ne (by rw [List.length_take]; omega) (by rw [hlen, List.length_take]; omega) he
  · have e : min m s.q.length = s.q.length := by omega
    rw [e, List.getElem?_eq_none (by omega), List.getElem?_eq_none (by omega)]
    simp only
    rw [List.take_length, List.take_of_length_le (by omega)]

end Go.Proofs.Ytcihncgajkogkaa
