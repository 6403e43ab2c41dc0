/- The reference's ordered: choosing the least, again and again, is a stable sort. Plain. -/
import Derived.Test.YtlmfgdibodpniaaRefP
namespace Go.Proofs.Ytlmfgdibodpniaa

section
variable (key : Nat → Nat)
def insI (l : List Nat) (x : Nat) : List Nat := l.takeWhile (fun c => decide (key c ≤ key x)) ++ x :: l.dropWhile (fun c => decide (key c ≤ key x))
def isortI (l : List Nat) : List Nat := l.foldl (insI key) []
def lexLt (a b : Nat) : Prop := key a < key b ∨ (key a = key b ∧ a < b)

theorem isortI_snoc (l : List Nat) (x : Nat) : isortI key (l ++ [x]) = insI key (isortI key l) x := by unfold isortI; rw [List.foldl_append]; rfl
theorem insI_mem {l : List Nat} {x c : Nat} : c ∈ insI key l x ↔ c = x ∨ c ∈ l := by
  unfold insI
  rw [List.mem_append, List.mem_cons]
  have : c ∈ l ↔ c ∈ l.takeWhile (fun c => decide (key c ≤ key x)) ∨ c ∈ l.dropWhile (fun c => decide (key c ≤ key x)) := by
    rw [← List.mem_append, List.takeWhile_append_dropWhile]
  rw [this]
  constructor <;> intro h <;> rcases h with h | h | h <;> simp [h]
theorem isortI_mem (l : List Nat) (c : Nat) : c ∈ isortI key l ↔ c ∈ l := by
  refine snoc_ind (P := fun l => c ∈ isortI key l ↔ c ∈ l) Iff.rfl (fun l x ih => ?_) l
  rw [isortI_snoc, insI_mem, ih, List.mem_append, List.mem_singleton]
  exact or_comm
theorem insI_lex {l : List Nat} {x : Nat} (hx : ∀ c ∈ l, c < x) (hs : l.Pairwise (lexLt key)) : (insI key l x).Pairwise (lexLt key) := by
  induction l with
  | nil => simp [insI]
  | cons a l ih =>
    have hc := List.pairwise_cons.1 hs
    have hax := hx a (by simp)
    by_cases h : key a ≤ key x
    · have e : insI key (a :: l) x = a :: insI key l x := by simp [insI, h]
      rw [e]
      refine List.pairwise_cons.2 ⟨fun c hcm => ?_, ih (fun c hc => hx c (by simp [hc])) hc.2⟩
      rcases (insI_mem key).1 hcm with rfl | hcm
      · unfold lexLt; omega
      · exact hc.1 c hcm
    · have e : insI key (a :: l) x = x :: a :: l := by simp [insI, h]
      rw [e]
      refine List.pairwise_cons.2 ⟨fun c hcm => ?_, hs⟩
      rcases List.mem_cons.1 hcm with rfl | hcm
      · unfold lexLt; omega
      · have := hc.1 c hcm
        unfold lexLt at this ⊢; omega
theorem isortI_lex (l : List Nat) (hl : l.Pairwise (· < ·)) : (isortI key l).Pairwise (lexLt key) := by
  refine snoc_ind (P := fun l => l.Pairwise (· < ·) → (isortI key l).Pairwise (lexLt key)) (fun _ => List.Pairwise.nil) (fun l x ih hp => ?_) l hl
  rw [isortI_snoc]
  have hp' := List.pairwise_append.1 hp
  exact insI_lex key (fun c hc => hp'.2.2 c ((isortI_mem key l c).1 hc) x (by simp)) (ih hp'.1)

theorem isortI_map (f : Nat → Rc) (hf : ∀ i, (f i).2 = key i) (l : List Nat) : (isortI key l).map f = isort (l.map f) := by
  refine snoc_ind (P := fun l => (isortI key l).map f = isort (l.map f)) rfl (fun l x ih => ?_) l
  rw [isortI_snoc, List.map_append, List.map_cons, List.map_nil, isort_snoc, ← ih]
  obtain ⟨S, hS⟩ : ∃ S, S = isortI key l := ⟨_, rfl⟩
  rw [← hS]
  clear ih hS
  induction S with
  | nil => rfl
  | cons a S ih =>
    unfold insI ins at ih ⊢
    by_cases h : key a ≤ key x
    · have h' : (f a).2 ≤ (f x).2 := by rw [hf, hf]; exact h
      simp [h, h', ih]
    · have h' : ¬ (f a).2 ≤ (f x).2 := by rw [hf, hf]; exact h
      simp [h, h']

/-! ### One choice -/
def bestF (c : Nat → Bool) : Nat → Option Nat
  | 0 => none
  | j + 1 => match bestF c j with
    | none => if c j then some j else none
    | some b => if c j && decide (key j < key b) then some j else some b

theorem bestF_spec (c : Nat → Bool) (j : Nat) :
    (bestF key c j = none → ∀ i, i < j → c i = false) ∧ (∀ b, bestF key c j = some b → b < j ∧ c b = true ∧ ∀ i, i < j → c i = true → i ≠ b → lexLt key b i) := by
  induction j with
  | zero => exact ⟨fun _ i hi => absurd hi (by omega), fun b hb => by cases hb⟩
  | succ j ih =>
    obtain ⟨i1, i2⟩ := ih
    unfold bestF
    cases hb : bestF key c j with
    | none =>
      have h1 := i1 hb
      by_cases hc : c j = true
      · simp only [hc, if_true]
        refine ⟨fun h => (by cases h), fun b h => ?_⟩
        obtain rfl : j = b := by simpa using h
        refine ⟨Nat.lt_succ_self _, hc, fun i hi hci hne => ?_⟩
        rw [h1 i (by omega)] at hci; cases hci
      · have hc : c j = false := by simpa using hc
        simp only [hc]
        refine ⟨fun _ i hi => ?_, fun b h => by cases h⟩
        rcases Nat.lt_or_ge i j with h | h
        · exact h1 i h
        · obtain rfl : i = j := by omega
          exact hc
    | some b0 =>
      obtain ⟨hb1, hb2, hb3⟩ := i2 b0 hb
      by_cases hc : (c j && decide (key j < key b0)) = true
      · simp only [hc, if_true]
        rw [Bool.and_eq_true, decide_eq_true_eq] at hc
        refine ⟨fun h => (by cases h), fun b h => ?_⟩
        obtain rfl : j = b := by simpa using h
        refine ⟨Nat.lt_succ_self _, hc.1, fun i hi hci hne => ?_⟩
        have hij : i < j := by omega
        by_cases e : i = b0
        · subst e; unfold lexLt; omega
        · have := hb3 i hij hci e
          unfold lexLt at this ⊢; omega
      · simp only [hc]
        refine ⟨fun h => (by cases h), fun b h => ?_⟩
        obtain rfl : b0 = b := by simpa using h
        refine ⟨by omega, hb2, fun i hi hci hne => ?_⟩
        rcases Nat.lt_or_ge i j with h | h
        · exact hb3 i h hci hne
        · obtain rfl : i = j := by omega
          have : ¬ key i < key b0 := by
            intro hlt
            exact hc (by rw [hci]; simpa using hlt)
          unfold lexLt; omega

theorem bestF_sorted {N : Nat} {el : Nat → Bool} {S : List Nat} (hm : ∀ i, i ∈ S ↔ i < N ∧ el i = true) (hs : S.Pairwise (lexLt key)) (k : Nat) (hk : k ≤ S.length) :
    bestF key (fun i => el i && !decide (i ∈ S.take k)) N = S[k]? := by
  obtain ⟨s1, s2⟩ := bestF_spec key (fun i => el i && !decide (i ∈ S.take k)) N
  have hnd : ∀ i j, (hi : i < S.length) → (hj : j < S.length) → i < j → lexLt key S[i] S[j] := fun i j hi hj hij => List.pairwise_iff_getElem.1 hs i j hi hj hij
  cases hb : bestF key (fun i => el i && !decide (i ∈ S.take k)) N with
  | none =>
    have h1 := s1 hb
    rcases Nat.lt_or_ge k S.length with hlt | hge
    · exfalso
      have hmem := (hm S[k]).1 (List.getElem_mem hlt)
      have h2 := h1 S[k] hmem.1
      rw [hmem.2, Bool.true_and] at h2
      have h3 : S[k] ∈ S.take k := by simpa using h2
      obtain ⟨i, hi, he⟩ := List.mem_iff_getElem.1 h3
      rw [List.length_take] at hi
      rw [List.getElem_take] at he
      have := hnd i k (by omega) hlt (by omega)
      rw [he] at this
      unfold lexLt at this; omega
    · rw [List.getElem?_eq_none hge]
  | some b =>
    obtain ⟨h1, h2, h3⟩ := s2 b hb
    rw [Bool.and_eq_true] at h2
    have hbS := (hm b).2 ⟨h1, h2.1⟩
    have hbk : b ∉ S.take k := by simpa using h2.2
    obtain ⟨i, hi, he⟩ := List.mem_iff_getElem.1 hbS
    have hik : k ≤ i := by
      refine Nat.le_of_not_lt fun hlt => hbk ?_
      rw [← he]
      have : (S.take k)[i]'(by rw [List.length_take]; omega) = S[i] := List.getElem_take
      rw [← this]
      exact List.getElem_mem _
    have hkl : k < S.length := by omega
    rw [List.getElem?_eq_getElem hkl]
    by_cases e : i = k
    · subst e; rw [he]
    · exfalso
      have hlk := hnd k i hkl hi (by omega)
      have hmk := (hm S[k]).1 (List.getElem_mem hkl)
      have hnk : S[k] ∉ S.take k := by
        intro h3
        obtain ⟨i', hi', he'⟩ := List.mem_iff_getElem.1 h3
        rw [List.length_take] at hi'
        rw [List.getElem_take] at he'
        have := hnd i' k (by omega) hkl (by omega)
        rw [he'] at this
        unfold lexLt at this; omega
      have hne : S[k] ≠ b := by
        intro e2
        rw [he, e2] at hlk
        unfold lexLt at hlk; omega
      have := h3 S[k] hmk.1 (by rw [hmk.2]; simpa using hnk) hne
      rw [he] at hlk
      unfold lexLt at this hlk; omega
end

/-! ### The chosen copies are the sorted ones -/
def RS.key (r : RS) (i : Nat) : Nat := (r.cps.getD i default).2
def RS.el (r : RS) (h : Nat) (i : Nat) : Bool := decide (i < r.cps.length) && r.due h (r.cps.getD i default)
def RS.sel (r : RS) (h : Nat) : List Nat := isortI r.key ((List.range r.cps.length).filter fun i => r.due h (r.cps.getD i default))
theorem RS.sel_mem (r : RS) (h i : Nat) : i ∈ r.sel h ↔ i < r.cps.length ∧ r.due h (r.cps.getD i default) = true := by
  unfold RS.sel
  rw [isortI_mem, List.mem_filter, List.mem_range]
theorem RS.sel_lex (r : RS) (h : Nat) : (r.sel h).Pairwise (lexLt r.key) := isortI_lex _ _ (List.Pairwise.filter _ List.pairwise_lt_range)
theorem map_getD {α : Type} (d : α) (l : List α) : (List.range l.length).map (fun i => l.getD i d) = l := by
  apply List.ext_getElem
  · simp
  · intro i h1 h2
    simp at h1
    simp [List.getD_eq_getElem?_getD, List.getElem?_eq_getElem h2]
theorem RS.sel_got (r : RS) (h : Nat) : (r.sel h).map (fun i => (r.cps.getD i default).1) = r.got h := by
  unfold RS.sel RS.got
  have e : (fun i => (r.cps.getD i default).1) = Prod.fst ∘ fun i => r.cps.getD i default := rfl
  rw [e, ← List.map_map, isortI_map r.key (fun i => r.cps.getD i default) (fun i => rfl)]
  congr 2
  have h2 := List.filter_map (p := r.due h) (f := fun i => r.cps.getD i default) (l := List.range r.cps.length)
  rw [map_getD] at h2
  rw [h2]; rfl
theorem RS.best (r : RS) (h k : Nat) (hk : k ≤ (r.sel h).length) : bestF r.key (fun i => r.due h (r.cps.getD i default) && !decide (i ∈ (r.sel h).take k)) r.cps.length = (r.sel h)[k]? :=
  bestF_sorted r.key (r.sel_mem h) (r.sel_lex h) k hk
theorem RS.sel_len (r : RS) (h : Nat) : (r.sel h).length = (r.got h).length := by rw [← RS.sel_got, List.length_map]
end Go.Proofs.Ytlmfgdibodpniaa
