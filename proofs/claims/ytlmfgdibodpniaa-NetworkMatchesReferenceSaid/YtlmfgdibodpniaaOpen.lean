/- The arguments that came in, opened. -/
import Derived.Test.YtlmfgdibodpniaaCons
import Derived.ProofKit
import Derived.OpenShut
import Derived.Deep.Slices
namespace Go.Proofs.Ytlmfgdibodpniaa
open Go.ChangeShapes Go.WideShapes Go.ChangeAt Go.RowKit Go.Deep

theorem Try.cells3 : Try.prog.cellsOf 3 = 1 := by kernel_rfl
theorem Try.cells4 : Try.prog.cellsOf 4 = 1 := by kernel_rfl
theorem Try.cells9 : Try.prog.cellsOf 9 = 1 := by kernel_rfl
theorem Try.cells31 : Try.prog.cellsOf 31 = 3 := by kernel_rfl
theorem Try.cells33 : Try.prog.cellsOf 33 = 5 := by kernel_rfl
theorem Try.cells51 : Try.prog.cellsOf 51 = 3 := by kernel_rfl

section
variable {H : Type} {enc : TypeId × Value → H} {w : World} {base : Nat} {spare : Nat → Bool} {held : Bool}

/-- A field of one cell. -/
theorem one_field {t k off : Nat} {n : Nat} {cs : List Value} {y : Option (DataW H × List MemPlace)} (hc : Try.prog.cellsOf t = 1) (v : Value) (hv : cs[off]? = some v) {x : DataW H × List MemPlace} (hy : y = some x)
    (h : DataW.trod enc Try.prog w base spare held n t ((cs.drop off).take (Try.prog.cellsOf t)) = y) : DataW.trod enc Try.prog w base spare held n t [v] = some x := by
  rw [hc, hy] at h
  obtain ⟨hlt, hval⟩ := List.getElem?_eq_some_iff.1 hv
  rw [List.drop_eq_getElem_cons hlt, List.take_succ_cons, List.take_zero, hval] at h
  exact h

theorem open_pk {fuel : Nat} {cs : List Value} {x : DataW H × List MemPlace} (h : DataW.trod enc Try.prog w base spare held fuel 31 cs = some x) : ∃ a : Pk, cs = pkVals a ∧ a.body.size ≤ maxLen := by
  obtain ⟨xs, n, -, -, hl, hxl, hf⟩ := DataW.trod_struct Try.underlying31 h
  rw [Try.cells31] at hl
  match cs, hl with
  | [v0, v1, v2], _ =>
    match xs, hxl with
    | [x0, x1, x2], _ =>
      obtain ⟨a, e0, -, -⟩ := DataW.trod_int Try.underlying3 (one_field (off := 0) (k := 0) Try.cells3 v0 rfl (x := x0) rfl (hf 0 _ rfl))
      obtain ⟨b, e1, -, -⟩ := DataW.trod_int Try.underlying3 (one_field (off := 1) (k := 0) Try.cells3 v1 rfl (x := x1) rfl (hf 1 _ rfl))
      obtain ⟨t, e2, -, w2⟩ := DataW.trod_string Try.underlying9 (one_field (off := 2) (k := 0) Try.cells9 v2 rfl (x := x2) rfl (hf 2 _ rfl))
      simp only [List.cons.injEq, and_true] at e0 e1 e2
      subst e0; subst e1; subst e2
      exact ⟨⟨a, b, t⟩, rfl, w2⟩

theorem open_fa {fuel : Nat} {cs : List Value} {x : DataW H × List MemPlace} (h : DataW.trod enc Try.prog w base spare held fuel 51 cs = some x) : ∃ a : Fa, cs = faVals a ∧ True := by
  obtain ⟨xs, n, -, -, hl, hxl, hf⟩ := DataW.trod_struct Try.underlying51 h
  rw [Try.cells51] at hl
  match cs, hl with
  | [v0, v1, v2], _ =>
    match xs, hxl with
    | [x0, x1, x2], _ =>
      obtain ⟨a, e0, -⟩ := DataW.trod_bool Try.underlying4 (one_field (off := 0) (k := 0) Try.cells4 v0 rfl (x := x0) rfl (hf 0 _ rfl))
      obtain ⟨b, e1, -, -⟩ := DataW.trod_int Try.underlying3 (one_field (off := 1) (k := 0) Try.cells3 v1 rfl (x := x1) rfl (hf 1 _ rfl))
      obtain ⟨c, e2, -, -⟩ := DataW.trod_int Try.underlying3 (one_field (off := 2) (k := 0) Try.cells3 v2 rfl (x := x2) rfl (hf 2 _ rfl))
      simp only [List.cons.injEq, and_true] at e0 e1 e2
      subst e0; subst e1; subst e2
      exact ⟨⟨a, b, c⟩, rfl, trivial⟩

def opVals (o : OpR) : List Value := .int .i64 o.kind :: .int .i64 o.house :: pkVals o.p

theorem open_op {fuel : Nat} {cs : List Value} {x : DataW H × List MemPlace} (h : DataW.trod enc Try.prog w base spare held fuel 33 cs = some x) : ∃ a : OpR, cs = opVals a ∧ a.p.body.size ≤ maxLen := by
  obtain ⟨xs, n, -, -, hl, hxl, hf⟩ := DataW.trod_struct Try.underlying33 h
  rw [Try.cells33] at hl
  match cs, hl with
  | [v0, v1, v2, v3, v4], _ =>
    match xs, hxl with
    | [x0, x1, x2], _ =>
      obtain ⟨a, e0, -, -⟩ := DataW.trod_int Try.underlying3 (one_field (off := 0) (k := 0) Try.cells3 v0 rfl (x := x0) rfl (hf 0 _ rfl))
      obtain ⟨b, e1, -, -⟩ := DataW.trod_int Try.underlying3 (one_field (off := 1) (k := 0) Try.cells3 v1 rfl (x := x1) rfl (hf 1 _ rfl))
      have h2 : DataW.trod enc Try.prog w base spare held n 31 (([v0, v1, v2, v3, v4].drop 2).take (Try.prog.cellsOf 31)) = some x2 := hf 2 _ rfl
      rw [Try.cells31] at h2
      obtain ⟨p, e2, hp⟩ := open_pk h2
      simp only [List.cons.injEq, and_true] at e0 e1
      subst e0; subst e1
      refine ⟨⟨a, b, p⟩, ?_, hp⟩
      have e3 : [v2, v3, v4] = pkVals p := e2
      show Value.int _ a :: Value.int _ b :: [v2, v3, v4] = _
      rw [e3]; rfl

/-- A slice whose elements are opened one by one. -/
theorem open_row {T E c : Nat} {α : Type} [Inhabited α] (hu : Try.prog.underlying T = some (.slice E)) (hc : Try.prog.cellsOf E = c) (R : α → List Value) (ok : α → Prop) (hR : ∀ y, (R y).length = c) (hc0 : 0 < c)
    (hel : ∀ {fuel : Nat} {cs : List Value} {x : DataW H × List MemPlace}, DataW.trod enc Try.prog w base spare held fuel E cs = some x → ∃ y : α, cs = R y ∧ ok y)
    {v : Value} {d : DataW H} {p : List MemPlace} (hv : ∃ a len cap, v = .slice a len cap) (h : DataW.Trod enc Try.prog w base spare held T v d p) :
    ∃ (a : Option Addr) (cap : Nat) (L : List α), v = .slice a L.length cap ∧ L.length ≤ maxLen ∧ (a = none → L = [] ∧ cap = 0) ∧
      (L ≠ [] → ∃ b o, a = some ⟨b, o, none⟩ ∧ ∀ i, (hi : i < L.length) → ∀ j u, (R L[i])[j]? = some u → w.cell? ⟨b, o + i * c + j, none⟩ = some u) ∧ ∀ y ∈ L, ok y := by
  obtain ⟨a, len, cap, rfl⟩ := hv
  obtain ⟨fuel, hf⟩ := h
  rcases open_slice hu hf with ⟨hcs, -⟩ | ⟨a', len', cap', m, n, D, Pl, hcs, hb, hl, hm, hmm, -, hx⟩
  · simp only [Value.cells] at hcs
    obtain ⟨rfl, rfl, rfl⟩ : a = none ∧ len = 0 ∧ cap = 0 := by simpa using hcs
    exact ⟨none, 0, [], rfl, by simp, fun _ => ⟨rfl, rfl⟩, fun h => absurd rfl h, by simp⟩
  · simp only [Value.cells] at hcs
    obtain ⟨rfl, rfl, rfl⟩ : a = some a' ∧ len = len' ∧ cap = cap' := by simpa using hcs
    have hlm : len ≤ m := by rw [hmm]; split <;> omega
    have key : ∀ i, i < len → ∃ y : α, (∀ j u, (R y)[j]? = some u → w.cell? ⟨a'.block, a'.off + i * c + j, none⟩ = some u) ∧ a'.spot = none ∧ ok y := by
      intro i hi
      obtain ⟨cs', hcc, ht⟩ := hx i (by omega)
      obtain ⟨y, rfl, hok⟩ := hel ht
      rw [hc] at hcc
      obtain ⟨-, -, hat⟩ := World.cells?_some hcc
      have hsp : a'.spot = none := by
        obtain ⟨cs0, hc0', -⟩ := hx 0 (by omega)
        obtain ⟨-, hl0, hat0⟩ := World.cells?_some hc0'
        rw [hc] at hl0 hat0
        have := hat0 0 (by omega)
        rw [List.getElem?_eq_getElem (by omega)] at this
        have := World.cell?_spot this
        simpa [Addr.add] using this
      have hadd : ∀ j, (a'.add (i * c)).add j = ⟨a'.block, a'.off + i * c + j, none⟩ := by
        intro j
        obtain ⟨bb, oo, sp⟩ := a'
        simp only at hsp
        subst hsp
        unfold Addr.add
        split <;> split <;> simp_all
      refine ⟨y, fun j u hj => ?_, hsp, hok⟩
      have hjc : j < c := by rw [← hR y]; exact (List.getElem?_eq_some_iff.1 hj).1
      have := hat j hjc
      rw [hadd, hj] at this
      exact this
    obtain ⟨F, hF⟩ := choose_lt key
    refine ⟨some a', cap, (List.range len).map F, by simp, by simp; omega, by simp, fun hne => ⟨a'.block, a'.off, ?_, fun i hi => ?_⟩, ?_⟩
    · have h0 : 0 < len := by
        rcases Nat.eq_zero_or_pos len with h0 | h0
        · subst h0; simp at hne
        · exact h0
      have := (hF 0 h0).2.1
      obtain ⟨bb, oo, sp⟩ := a'
      simp only at this
      subst this
      rfl
    · have := (hF i (by simpa using hi)).1
      simpa using this
    · intro y hy
      obtain ⟨i, hi, rfl⟩ := List.mem_map.1 hy
      exact (hF i (by simpa using hi)).2.2

theorem open_fates {v : Value} {d : DataW H} {p : List MemPlace} (hv : ∃ a len cap, v = .slice a len cap) (h : DataW.Trod enc Try.prog w base spare held 22 v d p) :
    ∃ (a : Option Addr) (cap : Nat) (L : List Fa), v = .slice a L.length cap ∧ ArgFates w a L ∧ (a = none → cap = 0) := by
  obtain ⟨a, cap, L, rfl, h1, h2, h3, -⟩ := open_row Try.underlying22 Try.cells51 faVals (fun _ => True) (fun _ => rfl) (by decide) open_fa hv h
  refine ⟨a, cap, L, rfl, ⟨h1, fun e => (h2 e).1, fun hl => ?_⟩, fun e => (h2 e).2⟩
  obtain ⟨b, o, ha, hc⟩ := h3 hl
  exact ⟨b, o, ha, fun i hi => ⟨hc i hi 0 _ rfl, hc i hi 1 _ rfl, hc i hi 2 _ rfl⟩⟩

theorem open_ops {v : Value} {d : DataW H} {p : List MemPlace} (hv : ∃ a len cap, v = .slice a len cap) (h : DataW.Trod enc Try.prog w base spare held 23 v d p) :
    ∃ (a : Option Addr) (cap : Nat) (L : List OpR), v = .slice a L.length cap ∧ ArgOps w a L ∧ (a = none → cap = 0) := by
  obtain ⟨a, cap, L, rfl, h1, h2, h3, h4⟩ := open_row Try.underlying23 Try.cells33 opVals (fun y => y.p.body.size ≤ maxLen) (fun _ => rfl) (by decide) open_op hv h
  refine ⟨a, cap, L, rfl, ⟨h1, fun e => (h2 e).1, fun hl => ?_, h4⟩, fun e => (h2 e).2⟩
  obtain ⟨b, o, ha, hc⟩ := h3 hl
  exact ⟨b, o, ha, fun i hi => ⟨hc i hi 0 _ rfl, hc i hi 1 _ rfl, hc i hi 2 _ rfl, hc i hi 3 _ rfl, hc i hi 4 _ rfl⟩⟩
end
end Go.Proofs.Ytlmfgdibodpniaa
