/- The plain law of DiskPrefix. -/
import Derived.Test.YtcihncgajkogkaaPre
namespace Go.Proofs.Ytcihncgajkogkaa
open Go.RowKit

def dfltA : ActR := ⟨0, -1, 0, ByteArray.empty, false, 0⟩
/-- What 'next' holds after k of the writes. -/
def nextA (n : Nat) (L : List ActR) (k m : Nat) : ActR := ((goodA n L k)[m]?).getD dfltA

theorem nextA_valid (n : Nat) (L : List ActR) (k m : Nat) : nextA n L k m = dfltA ∨ validA n (nextA n L k m) = true := by
  unfold nextA
  cases h : (goodA n L k)[m]? with
  | none => exact .inl rfl
  | some y =>
    right
    have := List.mem_of_getElem? h
    unfold goodA at this
    exact (List.mem_filter.1 this).2

theorem prefix_law (S : DS) (V : List ActR) (m b : Nat) (hw : (S.withV V).Wf) (hw2 : (S.withV (V.take m)).Wf) (ho : S.off = false) (hb : b ≤ 32) :
    ((S.withV V).fail m b).start.all = match V[m]? with
      | some y => (S.withV (V.take m)).all.set y.sector.toNat (y.txt.extract 0 b ++ ((S.withV (V.take m)).get y.sector.toNat).extract b ((S.withV (V.take m)).get y.sector.toNat).size)
      | none => (S.withV (V.take m)).all := by
  have hn : ((S.withV V).fail m b).start.n = S.n := by
    unfold DS.fail DS.start
    split <;> rfl
  have hg : ∀ i, i < S.n → (S.withV (V.take m)).get i = stAt (settleL S.st ((V.map pendA).take m)) i := by
    intro i hi
    rw [get_all _ hw2 i hi]
    show stAt (settleL S.st ((V.take m).map pendA)) i = _
    rw [List.map_take]
  have hf : ∀ i, i < S.n → ((S.withV V).fail m b).start.get i = _ := fun i hi => fail_get (S.withV V) hw ho m b hb i hi
  apply List.ext_getElem?
  intro i
  by_cases hi : i < S.n
  · have e0 : ((S.withV V).fail m b).start.all[i]? = some (((S.withV V).fail m b).start.get i) := by
      rw [List.getElem?_eq_getElem (by rw [all_len, hn]; exact hi), all_get]
    have e1 : (S.withV (V.take m)).all[i]? = some ((S.withV (V.take m)).get i) := by
      rw [List.getElem?_eq_getElem (by rw [all_len]; exact hi), all_get]
    rw [e0, hf i hi]
    show some (match (V.map pendA)[m]? with
      | some p => _
      | none => _) = _
    rw [List.getElem?_map]
    cases hv : V[m]? with
    | none =>
      simp only [Option.map_none]
      rw [e1, hg i hi]
      rfl
    | some y =>
      simp only [Option.map_some]
      by_cases he : y.sector.toNat = i
      · subst he
        rw [if_pos (show (pendA y).fst = y.sector.toNat from rfl), List.getElem?_set_self (by rw [all_len]; exact hi), hg _ hi]
        rfl
      · rw [if_neg (show ¬ (pendA y).fst = i from he), List.getElem?_set_ne he, e1, hg i hi]
        rfl
  · have l0 : ((S.withV V).fail m b).start.all.length = S.n := by rw [all_len, hn]
    have l1 : (S.withV (V.take m)).all.length = S.n := by rw [all_len]; rfl
    rw [List.getElem?_eq_none (by omega)]
    split
    · rw [List.getElem?_eq_none (by rw [List.length_set]; omega)]
    · rw [List.getElem?_eq_none (by omega)]

end Go.Proofs.Ytcihncgajkogkaa
