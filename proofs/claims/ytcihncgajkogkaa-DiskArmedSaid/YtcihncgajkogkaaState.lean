/- The disk's state as the proofs see it, and how it lies in memory. -/
import Derived.Test.YtcihncgajkogkaaCopy
namespace Go.Proofs.Ytcihncgajkogkaa
open Go.RowKit

/-- A disk: n sectors, the stable bytes, the pending writes (sector, text), off, the alarm. -/
structure DS where
  n : Nat
  st : List UInt8
  q : List (Nat × ByteArray)
  off : Bool
  armed : Option (Int × Int × Int)

structure DS.Wf (s : DS) : Prop where
  n0 : 1 ≤ s.n
  n1 : s.n ≤ 4000
  len : s.st.length = s.n * 32
  q : ∀ p ∈ s.q, p.1 < s.n ∧ p.2.size = 32
  a : ∀ a, s.armed = some a → 0 ≤ a.1 ∧ a.1 ≤ 9223372036854775807

def pendVals (p : Nat × ByteArray) : List Value := [.int .i64 (p.1 * 32), .int .i64 ((p.1 + 1) * 32), .string p.2]

def alarmVal : Option (Int × Int × Int) → Nat → Value
  | none, _ => .pointer none
  | some _, A => .pointer (some ⟨A, 0, none⟩)

def alarmObj (a : Int × Int × Int) : Obj := .cells #[.int .i64 a.1, .int .i64 a.2.1, .int .i64 a.2.2] 62

def diskObj (n Bs : Nat) (qv : Value) (off : Bool) (av : Value) : Obj :=
  .cells #[.slice (some ⟨Bs, 0, none⟩) (n * 32) (n * 32), qv, .bool off, av] 53

/-- The blocks of a disk. -/
structure Foot where
  B : Nat
  S : Nat
  Q : Option Nat
  A : Option Nat

def Foot.list (f : Foot) : List Nat := f.B :: f.S :: (f.Q.toList ++ f.A.toList)

structure DiskAt (w : World) (base : Nat) (f : Foot) (s : DS) : Prop where
  wf : s.Wf
  nodup : f.list.Nodup
  ge : ∀ k ∈ f.list, base ≤ k
  ex : ∃ qv av, w.heap[f.B]? = some (diskObj s.n f.S qv s.off av) ∧ w.heap[f.S]? = some (.cells (s.st.map byteCell).toArray 5) ∧
    w.ownsRow base 60 3 qv s.q.length (s.q.flatMap pendVals) ∧ f.Q = qv.ownBlock ∧ (s.q = [] → qv = .slice none 0 0) ∧
    (match s.armed with
     | none => av = .pointer none ∧ f.A = none
     | some a => ∃ A, av = .pointer (some ⟨A, 0, none⟩) ∧ f.A = some A ∧ w.heap[A]? = some (alarmObj a))

theorem DiskAt.lt {w : World} {base : Nat} {f : Foot} {s : DS} (h : DiskAt w base f s) : ∀ k ∈ f.list, k < w.heap.size := by
  obtain ⟨qv, av, h1, h2, h3, h4, h0, h5⟩ := h.ex
  intro k hk
  simp only [Foot.list, List.mem_cons, List.mem_append, Option.mem_toList] at hk
  rcases hk with rfl | rfl | hk | hk
  · exact (Array.getElem?_eq_some_iff.1 h1).1
  · exact (Array.getElem?_eq_some_iff.1 h2).1
  · rw [h4] at hk; exact (h3.lt k hk).2
  · cases ha : s.armed with
    | none => rw [ha] at h5; rw [h5.2] at hk; simp at hk
    | some a =>
      rw [ha] at h5
      obtain ⟨A, _, hA, hb⟩ := h5
      rw [hA] at hk
      obtain rfl : A = k := by simpa using hk
      exact (Array.getElem?_eq_some_iff.1 hb).1

theorem ownsRow_upd {w w' : World} {base e size n : Nat} {v : Value} {xs : List Value} (h : w.ownsRow base e size v n xs) (hb : ∀ k, v.ownBlock = some k → w'.heap[k]? = w.heap[k]?) : w'.ownsRow base e size v n xs := by
  obtain ⟨h1, h2⟩ := h
  refine ⟨h1, ?_⟩
  rcases h2 with h2 | ⟨g, cap, cur, rfl, hg, hh, r⟩
  · exact .inl h2
  · exact .inr ⟨g, cap, cur, rfl, hg, by rw [hb g rfl]; exact hh, r⟩

theorem DiskAt.upd {w w' : World} {base : Nat} {f : Foot} {s : DS} (h : DiskAt w base f s) {G : List Nat} (hu : Upd G w w') (hd : ∀ k ∈ f.list, k ∉ G) : DiskAt w' base f s := by
  have hb : ∀ k ∈ f.list, w'.heap[k]? = w.heap[k]? := fun k hk => hu.block k (h.lt k hk) (hd k hk)
  obtain ⟨qv, av, h1, h2, h3, h4, h0, h5⟩ := h.ex
  refine ⟨h.wf, h.nodup, h.ge, qv, av, ?_, ?_, ?_, h4, h0, ?_⟩
  · rw [hb _ (by simp [Foot.list])]; exact h1
  · rw [hb _ (by simp [Foot.list])]; exact h2
  · exact ownsRow_upd h3 fun k hk => hb k (by simp [Foot.list, h4, hk])
  · cases ha : s.armed with
    | none => rw [ha] at h5; exact h5
    | some a =>
      rw [ha] at h5
      obtain ⟨A, h6, hA, h7⟩ := h5
      exact ⟨A, h6, hA, by rw [hb _ (by simp [Foot.list, hA])]; exact h7⟩

/-- The receiver's cells. -/
theorem DiskAt.cells {w : World} {base : Nat} {f : Foot} {s : DS} (h : DiskAt w base f s) : ∃ qv av,
    w.cell? ⟨f.B, 0, none⟩ = some (.slice (some ⟨f.S, 0, none⟩) (s.n * 32) (s.n * 32)) ∧ w.cell? ⟨f.B, 1, none⟩ = some qv ∧ w.cell? ⟨f.B, 2, none⟩ = some (.bool s.off) ∧ w.cell? ⟨f.B, 3, none⟩ = some av ∧
    (∀ i, w.frozen? ⟨f.B, i, none⟩ = false) ∧
    w.heap[f.B]? = some (diskObj s.n f.S qv s.off av) ∧ w.heap[f.S]? = some (.cells (s.st.map byteCell).toArray 5) ∧
    w.ownsRow base 60 3 qv s.q.length (s.q.flatMap pendVals) ∧ f.Q = qv.ownBlock ∧ (s.q = [] → qv = .slice none 0 0) ∧
    (match s.armed with
     | none => av = .pointer none ∧ f.A = none
     | some a => ∃ A, av = .pointer (some ⟨A, 0, none⟩) ∧ f.A = some A ∧ w.heap[A]? = some (alarmObj a)) := by
  obtain ⟨qv, av, h1, h2, h3, h4, h0, h5⟩ := h.ex
  refine ⟨qv, av, ?_, ?_, ?_, ?_, ?_, h1, h2, h3, h4, h0, h5⟩
  · rw [cell_of_row w _ 0 _ 53 (0, 0) h1]; rfl
  · rw [cell_of_row w _ 1 _ 53 (0, 0) h1]; rfl
  · rw [cell_of_row w _ 2 _ 53 (0, 0) h1]; rfl
  · rw [cell_of_row w _ 3 _ 53 (0, 0) h1]; rfl
  · intro i; simp [World.frozen?, h1, diskObj]

/-! ### at -/
def DS.atE (s : DS) (sec : Int) : Int := if s.off then 21 else if sec < 0 ∨ (s.n : Int) ≤ sec then 1 else 0
def spotVal (e : Int) (sec : Int) : Value := if e = 0 then .agg #[.int .i64 (sec * 32), .int .i64 ((sec + 1) * 32)] else .agg #[.int .i64 0, .int .i64 0]

theorem DiskAt.B_lt {w : World} {base : Nat} {f : Foot} {s : DS} (h : DiskAt w base f s) : f.B < w.heap.size := h.lt _ (by simp [Foot.list])

set_option maxHeartbeats 400000 in
theorem at_off {w : World} {base : Nat} {f : Foot} {s : DS} (h : DiskAt w base f s) (sec : Int) (ho : s.off = true) :
    Calls Try.prog 24 #[.pointer (some ⟨f.B, 0, none⟩), .int .i64 sec] w fun e w' => e = .returned (.tuple #[.agg #[.int .i64 0, .int .i64 0], .int .i64 21]) ∧ Upd [] w w' := by
  obtain ⟨qv, av, c0, c1, c2, c3, hfz, _⟩ := h.cells
  rw [ho] at c2
  have hlt := h.B_lt
  clear h c0 c1 c3
  go_enter Try.func24, Try.ntmps24
  go_wp2
  exact bodyPost_ret (v := .tuple #[.agg #[.int .i64 0, .int .i64 0], .int .i64 21]) (by simp [results, Try.results24, go_sem]) rfl ⟨rfl, (Upd.refl _ _).alloc _⟩

set_option maxHeartbeats 400000 in
theorem at_bad {w : World} {base : Nat} {f : Foot} {s : DS} (h : DiskAt w base f s) (sec : Int) (ho : s.off = false) (hs : sec < 0 ∨ (s.n : Int) ≤ sec) :
    Calls Try.prog 24 #[.pointer (some ⟨f.B, 0, none⟩), .int .i64 sec] w fun e w' => e = .returned (.tuple #[.agg #[.int .i64 0, .int .i64 0], .int .i64 1]) ∧ Upd [] w w' := by
  obtain ⟨qv, av, c0, c1, c2, c3, hfz, _⟩ := h.cells
  rw [ho] at c2
  have hlt := h.B_lt
  have hn := h.wf.n1
  clear h c1 c3
  by_cases h0 : sec < 0
  · go_enter Try.func24, Try.ntmps24
    go_wp2
    exact bodyPost_ret (v := .tuple #[.agg #[.int .i64 0, .int .i64 0], .int .i64 1]) (by simp [results, Try.results24, go_sem]) rfl ⟨rfl, (Upd.refl _ _).alloc _⟩
  · have h1 : (s.n : Int) ≤ sec := by omega
    clear hs
    go_enter Try.func24, Try.ntmps24
    go_wp2
    exact bodyPost_ret (v := .tuple #[.agg #[.int .i64 0, .int .i64 0], .int .i64 1]) (by simp [results, Try.results24, go_sem]) rfl ⟨rfl, (Upd.refl _ _).alloc _⟩

set_option maxHeartbeats 400000 in
theorem at_ok {w : World} {base : Nat} {f : Foot} {s : DS} (h : DiskAt w base f s) (sec : Nat) (ho : s.off = false) (hs : sec < s.n) :
    Calls Try.prog 24 #[.pointer (some ⟨f.B, 0, none⟩), .int .i64 sec] w fun e w' => e = .returned (.tuple #[.agg #[.int .i64 (sec * 32), .int .i64 ((sec + 1) * 32)], .int .i64 0]) ∧ Upd [] w w' := by
  obtain ⟨qv, av, c0, c1, c2, c3, hfz, _⟩ := h.cells
  rw [ho] at c2
  have hlt := h.B_lt
  have hn := h.wf.n1
  clear h c1 c3
  go_enter Try.func24, Try.ntmps24
  go_wp2
  exact bodyPost_ret (v := .tuple #[.agg #[.int .i64 (sec * 32), .int .i64 ((sec + 1) * 32)], .int .i64 0]) (by simp [results, Try.results24, go_sem]) rfl ⟨rfl, (Upd.refl _ _).alloc _⟩

end Go.Proofs.Ytcihncgajkogkaa
