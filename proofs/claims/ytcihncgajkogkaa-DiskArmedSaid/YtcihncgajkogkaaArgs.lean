/- The laws' lists of operations as arguments. -/
import Derived.Test.YtcihncgajkogkaaLive
namespace Go.Proofs.Ytcihncgajkogkaa
open Go.RowKit

/-- A list of operations, as it came in: a slice at a, whose cells lie in w. -/
structure ArgActs (w : World) (a : Option Addr) (l : List ActR) : Prop where
  len : l.length ≤ maxLen
  lies : 0 < l.length → ∃ b o, a = some ⟨b, o, none⟩ ∧ ActsAt w b o l

theorem ArgActs.upd {w w' : World} {a : Option Addr} {l : List ActR} (h : ArgActs w a l) (hu : Upd [] w w') : ArgActs w' a l :=
  ⟨h.len, fun hp => let ⟨b, o, ha, hx⟩ := h.lies hp; ⟨b, o, ha, hx.upd hu (by simp)⟩⟩

set_option maxHeartbeats 400000 in
theorem ok_zero (a : Option Addr) (cap : Nat) (w : World) :
    Calls Try.prog 7 #[.slice a 0 cap] w fun e w' => e = .returned (.bool true) ∧ w = w' := by
  go_enter Try.func7, Try.ntmps7
  go_wp2
  refine wp_loop_rounds 1 ?_; rw [rounds_succ]
  go_wp2
  go_ret
  exact ⟨rfl, rfl⟩

theorem ok_gen (a : Option Addr) (l : List ActR) (cap : Nat) (w : World) (H : ArgActs w a l) :
    Calls Try.prog 7 #[.slice a l.length cap] w fun e w' => e = .returned (.bool (okB l)) ∧ w = w' := by
  by_cases hp : 0 < l.length
  · obtain ⟨b, o, rfl, hx⟩ := H.lies hp
    exact ok_any b o l cap w H.len hx
  · obtain rfl : l = [] := List.eq_nil_of_length_eq_zero (by omega)
    exact ok_zero a cap w

theorem okB_short {l : List ActR} (h : okB l = true) : l.length ≤ 60 ∧ ∀ a ∈ l, a.text.size ≤ 100 := by
  unfold okB at h
  rw [Bool.and_eq_true, List.all_eq_true] at h
  exact ⟨by simpa using h.2, fun a ha => by simpa using h.1 a ha⟩

/-! ### The operations one after the other -/
def DS.acts (s : DS) (l : List ActR) : DS := l.foldl DS.act s

theorem fail_q (s : DS) (a b : Int) : (s.fail a b).q.length ≤ s.q.length := by
  unfold DS.fail; split
  · exact Nat.le_refl _
  · simp
theorem write_q (s : DS) (sec : Int) (t : ByteArray) : (s.write sec t).1.q.length ≤ s.q.length + 1 := by
  unfold DS.write
  split
  · exact Nat.le_succ _
  split
  · exact Nat.le_succ _
  · refine Nat.le_trans (count_q _) ?_
    simp [DS.push]
theorem sync_q (s : DS) : s.sync.1.q.length ≤ s.q.length := by
  unfold DS.sync
  split
  · exact Nat.le_refl _
  split
  · exact count_q s
  · simp
theorem act_q (s : DS) (a : ActR) : (s.act a).q.length ≤ s.q.length + 1 := by
  unfold DS.act
  split
  · exact write_q _ _ _
  split
  · omega
  split
  · have := sync_q s; omega
  split
  · have := fail_q s a.sector a.bytes; omega
  split
  · simp [DS.start]
  split
  · unfold DS.arm; split <;> simp
  · omega
theorem acts_q (s : DS) (l : List ActR) : (s.acts l).q.length ≤ s.q.length + l.length := by
  induction l generalizing s with
  | nil => simp [DS.acts]
  | cons a l ih =>
    have h1 := ih (s.act a)
    have h2 := act_q s a
    simp only [DS.acts, List.foldl_cons, List.length_cons] at h1 ⊢
    omega
theorem acts_take (s : DS) (l : List ActR) (k : Nat) (hk : k < l.length) : s.acts (l.take (k + 1)) = (s.acts (l.take k)).act l[k] := by
  rw [List.take_succ_eq_append_getElem hk, DS.acts, List.foldl_append]
  rfl

theorem count_n (s : DS) : s.count.1.n = s.n := by
  unfold DS.count; split
  · rfl
  · split
    · rfl
    · unfold DS.fail; split <;> rfl
theorem act_n (s : DS) (a : ActR) : (s.act a).n = s.n := by
  unfold DS.act
  split
  · unfold DS.write; split
    · rfl
    split
    · rfl
    · rw [count_n]; rfl
  split
  · rfl
  split
  · unfold DS.sync; split
    · rfl
    split
    · exact count_n s
    · exact count_n s
  split
  · unfold DS.fail; split <;> rfl
  split
  · rfl
  split
  · unfold DS.arm; split <;> rfl
  · rfl
theorem acts_n (s : DS) (l : List ActR) : (s.acts l).n = s.n := by
  induction l generalizing s with
  | nil => rfl
  | cons a l ih => exact (ih (s.act a)).trans (act_n s a)

end Go.Proofs.Ytcihncgajkogkaa
