/- A list of operations that came in, opened. -/
import Derived.Test.YtcihncgajkogkaaArgs
import Derived.ProofKit
import Derived.OpenShut
import Derived.Deep.Slices
namespace Go.Proofs.Ytcihncgajkogkaa
open Go.ChangeShapes Go.WideShapes Go.ChangeAt Go.RowKit Go.Deep

theorem Try.cells3 : Try.prog.cellsOf 3 = 1 := by kernel_rfl
theorem Try.cells4 : Try.prog.cellsOf 4 = 1 := by kernel_rfl
theorem Try.cells9 : Try.prog.cellsOf 9 = 1 := by kernel_rfl
theorem Try.cells32 : Try.prog.cellsOf 32 = 6 := by kernel_rfl

section
variable {H : Type} {enc : TypeId × Value → H} {w : World} {base : Nat} {spare : Nat → Bool} {held : Bool}

/-- A field of one cell. -/
theorem one_field {t k off : Nat} {n : Nat} {cs : List Value} {y : Option (DataW H × List MemPlace)} (hc : Try.prog.cellsOf t = 1) (v : Value) (hv : cs[off]? = some v) {x : DataW H × List MemPlace} (hy : y = some x)
    (h : DataW.trod enc Try.prog w base spare held n t ((cs.drop off).take (Try.prog.cellsOf t)) = y) : DataW.trod enc Try.prog w base spare held n t [v] = some x := by
  rw [hc, hy] at h
  obtain ⟨hlt, hval⟩ := List.getElem?_eq_some_iff.1 hv
  rw [List.drop_eq_getElem_cons hlt, List.take_succ_cons, List.take_zero, hval] at h
  exact h

theorem open_act {fuel : Nat} {cs : List Value} {x : DataW H × List MemPlace} (h : DataW.trod enc Try.prog w base spare held fuel 32 cs = some x) :
    ∃ a : ActR, cs = [.int .i64 a.kind, .int .i64 a.sector, .int .i64 a.bytes, .string a.text, .bool a.odd, .int .i64 a.after] ∧
      ((-9223372036854775808 ≤ a.sector ∧ a.sector ≤ 9223372036854775807) ∧ a.after ≤ 9223372036854775807) ∧ a.text.size ≤ maxLen := by
  obtain ⟨xs, n, -, -, hl, hxl, hf⟩ := DataW.trod_struct Try.underlying32 h
  rw [Try.cells32] at hl
  match cs, hl with
  | [v0, v1, v2, v3, v4, v5], _ =>
    match xs, hxl with
    | [x0, x1, x2, x3, x4, x5], _ =>
      obtain ⟨k, e0, -, -⟩ := DataW.trod_int Try.underlying3 (one_field (off := 0) (k := 0) Try.cells3 v0 rfl (x := x0) rfl (hf 0 _ rfl))
      obtain ⟨s, e1, -, w1⟩ := DataW.trod_int Try.underlying3 (one_field (off := 1) (k := 0) Try.cells3 v1 rfl (x := x1) rfl (hf 1 _ rfl))
      obtain ⟨b, e2, -, -⟩ := DataW.trod_int Try.underlying3 (one_field (off := 2) (k := 0) Try.cells3 v2 rfl (x := x2) rfl (hf 2 _ rfl))
      obtain ⟨t, e3, -, w3⟩ := DataW.trod_string Try.underlying9 (one_field (off := 3) (k := 0) Try.cells9 v3 rfl (x := x3) rfl (hf 3 _ rfl))
      obtain ⟨o, e4, -⟩ := DataW.trod_bool Try.underlying4 (one_field (off := 4) (k := 0) Try.cells4 v4 rfl (x := x4) rfl (hf 4 _ rfl))
      obtain ⟨a, e5, -, w5⟩ := DataW.trod_int Try.underlying3 (one_field (off := 5) (k := 0) Try.cells3 v5 rfl (x := x5) rfl (hf 5 _ rfl))
      simp only [List.cons.injEq, and_true] at e0 e1 e2 e3 e4 e5
      subst e0; subst e1; subst e2; subst e3; subst e4; subst e5
      have b1 := bounds_i64 w1
      have b5 := bounds_i64 w5
      exact ⟨⟨k, s, b, t, o, a⟩, rfl, ⟨b1, b5.2⟩, w3⟩

theorem open_acts {v : Value} {d : DataW H} {p : List MemPlace} (hv : ∃ a len cap, v = .slice a len cap) (h : DataW.Trod enc Try.prog w base spare held 22 v d p) :
    ∃ (a : Option Addr) (cap : Nat) (L : List ActR), v = .slice a L.length cap ∧ ArgActs w a L := by
  obtain ⟨a, len, cap, rfl⟩ := hv
  obtain ⟨fuel, hf⟩ := h
  rcases open_slice Try.underlying22 hf with ⟨hcs, -⟩ | ⟨a', len', cap', m, n, D, Pl, hcs, hb, hl, hm, hmm, -, hx⟩
  · simp only [Value.cells] at hcs
    obtain ⟨rfl, rfl, rfl⟩ : a = none ∧ len = 0 ∧ cap = 0 := by simpa using hcs
    exact ⟨none, 0, [], rfl, by simp, by simp⟩
  · simp only [Value.cells] at hcs
    obtain ⟨rfl, rfl, rfl⟩ : a = some a' ∧ len = len' ∧ cap = cap' := by simpa using hcs
    have hlm : len ≤ m := by rw [hmm]; split <;> omega
    have key : ∀ i, i < len → ∃ y : ActR, ActAt w a'.block (a'.off + i * 6) y ∧ a'.spot = none ∧ ((-9223372036854775808 ≤ y.sector ∧ y.sector ≤ 9223372036854775807) ∧ y.after ≤ 9223372036854775807) ∧ y.text.size ≤ maxLen := by
      intro i hi
      obtain ⟨cs', hc, ht⟩ := hx i (by omega)
      obtain ⟨y, rfl, hw, htx⟩ := open_act ht
      rw [Try.cells32] at hc
      obtain ⟨-, -, hat⟩ := World.cells?_some hc
      have c0 := hat 0 (by omega)
      have hspot : (a'.add (i * 6)).spot = none := by
        have := World.cell?_spot (a := (a'.add (i * 6)).add 0) (w := w) (v := .int .i64 y.kind) c0
        simpa [Addr.add] using this
      have c1 := hat 1 (by omega)
      have hsp : a'.spot = none := by
        by_cases h0 : i * 6 = 0
        · simpa [Addr.add, h0] using hspot
        · -- the first element tells the address's spot
          obtain ⟨cs0, hc0, -⟩ := hx 0 (by omega)
          obtain ⟨-, hl0, hat0⟩ := World.cells?_some hc0
          rw [Try.cells32] at hl0 hat0
          have := hat0 0 (by omega)
          rw [List.getElem?_eq_getElem (by omega)] at this
          have := World.cell?_spot this
          simpa [Addr.add] using this
      have hadd : ∀ j, (a'.add (i * 6)).add j = ⟨a'.block, a'.off + i * 6 + j, none⟩ := by
        intro j
        obtain ⟨bb, oo, sp⟩ := a'
        simp only at hsp
        subst hsp
        unfold Addr.add
        split <;> split <;> simp_all
      refine ⟨y, ⟨?_, ?_, ?_, ?_, ?_, ?_⟩, hsp, hw, htx⟩
      · have := hat 0 (by omega); rw [hadd] at this; exact this
      · have := hat 1 (by omega); rw [hadd] at this; exact this
      · have := hat 2 (by omega); rw [hadd] at this; exact this
      · have := hat 3 (by omega); rw [hadd] at this; exact this
      · have := hat 4 (by omega); rw [hadd] at this; exact this
      · have := hat 5 (by omega); rw [hadd] at this; exact this
    obtain ⟨F, hF⟩ := choose_lt key
    refine ⟨some a', cap, (List.range len).map F, by simp, by simp; omega, fun hp => ⟨a'.block, a'.off, ?_, ⟨fun i hi => ?_, fun i hi => ?_, fun i hi => ?_⟩⟩⟩
    · have := (hF 0 (by simpa using hp)).2.1
      obtain ⟨bb, oo, sp⟩ := a'
      simp only at this
      subst this
      rfl
    · have := (hF i (by simpa using hi)).1
      simpa using this
    · have := (hF i (by simpa using hi)).2.2.1
      simpa using this
    · have := (hF i (by simpa using hi)).2.2.2
      simpa using this
end

end Go.Proofs.Ytcihncgajkogkaa
