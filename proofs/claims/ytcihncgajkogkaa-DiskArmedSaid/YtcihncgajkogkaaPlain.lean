/- Plain facts on the disk's states: what a failure keeps. -/
import Derived.Test.YtcihncgajkogkaaArgs
namespace Go.Proofs.Ytcihncgajkogkaa

theorem splice_get {α : Type} (L : List α) (o : Nat) (cs : List α) (h : o + cs.length ≤ L.length) (j : Nat) :
    (splice L o cs)[j]? = if j < o then L[j]? else if j < o + cs.length then cs[j - o]? else L[j]? := by
  unfold splice
  by_cases h1 : j < o
  · rw [if_pos h1, List.getElem?_append_left (by rw [List.length_take]; omega), List.getElem?_take, if_pos h1]
  · rw [if_neg h1, List.getElem?_append_right (by rw [List.length_take]; omega), List.length_take]
    have e : j - min o L.length = j - o := by omega
    rw [e]
    by_cases h2 : j < o + cs.length
    · rw [if_pos h2, List.getElem?_append_left (by omega)]
    · rw [if_neg h2, List.getElem?_append_right (by omega), List.getElem?_drop]
      congr 1; omega

theorem stAt_ext {a b : List UInt8} {i : Nat} (h : ∀ j, i * 32 ≤ j → j < i * 32 + 32 → a[j]? = b[j]?) : stAt a i = stAt b i := by
  unfold stAt
  congr 2
  apply List.ext_getElem?
  intro j
  rw [List.getElem?_take, List.getElem?_take]
  split
  · rw [List.getElem?_drop, List.getElem?_drop]
    exact h _ (by omega) (by omega)
  · rfl

theorem stAt_splice_ne {st : List UInt8} {p i : Nat} {bs : List UInt8} (hb : bs.length ≤ 32) (h : p * 32 + bs.length ≤ st.length) (hne : p ≠ i) : stAt (splice st (p * 32) bs) i = stAt st i := by
  apply stAt_ext
  intro j h1 h2
  rw [splice_get _ _ _ h]
  split
  · rfl
  split
  · exfalso
    rcases Nat.lt_or_gt_of_ne hne with h3 | h3 <;> omega
  · rfl

theorem stAt_splice_eq {st : List UInt8} {p : Nat} {t : ByteArray} (ht : t.size = 32) (h : p * 32 + 32 ≤ st.length) : stAt (splice st (p * 32) t.data.toList) p = t := by
  have hl : t.data.toList.length = 32 := by simpa using ht
  have e : ((splice st (p * 32) t.data.toList).drop (p * 32)).take 32 = t.data.toList := by
    unfold splice
    rw [List.drop_left' (by rw [List.length_take]; omega), List.take_left' hl]
  unfold stAt
  rw [e]

theorem stAt_settle_ne (ps : List (Nat × ByteArray)) : ∀ (st : List UInt8) (n i : Nat), st.length = n * 32 → (∀ p ∈ ps, p.1 < n ∧ p.2.size = 32) → (∀ p ∈ ps, p.1 ≠ i) → stAt (settleL st ps) i = stAt st i := by
  induction ps with
  | nil => intro st n i _ _ _; rfl
  | cons p ps ih =>
    intro st n i hl hp hne
    have h1 := hp p (by simp)
    have h2 : p.2.data.toList.length = 32 := by simpa using h1.2
    have h3 : p.1 * 32 + p.2.data.toList.length ≤ st.length := by omega
    have := ih (splice st (p.1 * 32) p.2.data.toList) n i (by rw [length_splice _ _ _ h3]; exact hl) (fun q hq => hp q (by simp [hq])) (fun q hq => hne q (by simp [hq]))
    show stAt (settleL (splice st (p.1 * 32) p.2.data.toList) ps) i = _
    rw [this]
    exact stAt_splice_ne (by omega) h3 (hne p (by simp))

/-- A sector without a pending write keeps its stable contents through a failure. -/
theorem fail_keeps (s : DS) (hw : s.Wf) (ho : s.off = false) (a b : Int) (i : Nat) (hne : ∀ p ∈ s.q, p.1 ≠ i) : (s.fail a b).start.get i = stAt s.st i := by
  have h1 : (s.fail a b) = { s with st := s.failSt a b, q := [], off := true, armed := none } := by rw [DS.fail, if_neg (by simp [ho])]
  rw [h1]
  show (lastQ [] i).getD (stAt (s.failSt a b) i) = _
  rw [lastQ_nil]
  show stAt (s.failSt a b) i = _
  have hset : ∀ k, stAt (settleL s.st (s.q.take k)) i = stAt s.st i := fun k =>
    stAt_settle_ne _ _ s.n i hw.len (fun p hp => hw.q p (List.mem_of_mem_take hp)) (fun p hp => hne p (List.mem_of_mem_take hp))
  have hlen : ∀ k, (settleL s.st (s.q.take k)).length = s.n * 32 := fun k => settle_len _ _ _ hw.len fun p hp => hw.q p (List.mem_of_mem_take hp)
  unfold DS.failSt
  simp only
  split
  · rename_i p hp
    have hm := List.mem_of_getElem? hp
    have h2 := hw.q p hm
    have h3 : p.2.data.toList.length = 32 := by simpa using h2.2
    rw [stAt_splice_ne (by rw [List.length_take]; omega) (by rw [hlen, List.length_take]; omega) (hne p hm)]
    exact hset _
  · exact hset _

/-- Started, and synchronized. -/
theorem start_sync (s : DS) : s.start.sync = ({ s.start with st := settleL s.st s.q, q := [] }, 0) := by
  unfold DS.sync
  rw [if_neg (by simp [DS.start])]
  have : s.start.count = (s.start, 0) := by unfold DS.count; rfl
  rw [this]
  rfl

def DS.synced (s : DS) : DS := { s.start with st := settleL s.st s.q, q := [] }

/-- What a write comes to on a disk that is on and not armed. -/
theorem write_ok (s : DS) (ho : s.off = false) (ha : s.armed = none) (j : Nat) (hj : j < s.n) (t : ByteArray) (ht : t.size = 32) : s.write j t = (s.push (j, t), 0) := by
  have h1 : s.atE j = 0 := by unfold DS.atE; rw [if_neg (by simp [ho]), if_neg (by omega)]
  unfold DS.write
  rw [if_neg (by simp [h1]), if_neg (by simp [ht])]
  have : ((j : Int)).toNat = j := by omega
  rw [this]
  unfold DS.count
  simp only [DS.push, ha]
theorem write_bad (s : DS) (ho : s.off = false) (sec : Int) (t : ByteArray) (h : ¬ (0 ≤ sec ∧ sec < s.n ∧ t.size = 32)) : s.write sec t = (s, 1) := by
  unfold DS.write
  by_cases h1 : sec < 0 ∨ (s.n : Int) ≤ sec
  · have : s.atE sec = 1 := by unfold DS.atE; rw [if_neg (by simp [ho]), if_pos h1]
    rw [if_pos (by simp [this]), this]
  · have : s.atE sec = 0 := by unfold DS.atE; rw [if_neg (by simp [ho]), if_neg h1]
    rw [if_neg (by simp [this]), if_pos (by omega)]

end Go.Proofs.Ytcihncgajkogkaa
