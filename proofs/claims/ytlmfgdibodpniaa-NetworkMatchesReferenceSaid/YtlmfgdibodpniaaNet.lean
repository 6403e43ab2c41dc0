/- The network's state, and how it lies in memory; has, Step, Waiting. -/
import Derived.Test.YtlmfgdibodpniaaIns
namespace Go.Proofs.Ytlmfgdibodpniaa
open Go.RowKit

theorem insert_any {w : World} {base : Nat} {v : Value} {l : List Cp} (hs : Seg w base 65 5 v l.length (l.flatMap cpVals)) (hl : l.length < 4000) (hb : base ≤ w.heap.size) (pos : Nat) (hp : pos ≤ l.length) (X : Nat) (x : Cp)
    (hX : w.heap[X]? = some (.cells (cpVals x).toArray 65 (0, 0))) (hXv : v.ownBlock ≠ some X) :
    Calls Try.prog 35 #[v, .int .i64 pos, .slice (some ⟨X, 0, none⟩) 1 1] w (InsPost w base v (l.take pos ++ x :: l.drop pos)) := by
  by_cases hp2 : pos = l.length
  · subst hp2
    have := insert_end hs hl hb X x hX
    simpa using this
  · rcases hs.2 with ⟨rfl, hn⟩ | ⟨g, o, cap, cur, rfl, hbg, hg, hnc, hcm, hfit, hpos, hx⟩
    · omega
    · by_cases hroom : l.length + 1 ≤ cap
      · exact insert_room hg hbg hfit hx hl hcm hroom pos (by omega) X x hX (fun e => hXv (by rw [e]; rfl))
      · exact insert_grow hg hbg hx hl hcm hnc hroom pos (by omega) X x hX

/-! ### Fates -/
structure Fa where
  lost : Bool
  copies : Int
  delay : Int
instance : Inhabited Fa := ⟨⟨false, 0, 0⟩⟩
def Fa.val (f : Fa) : Value := .agg #[.bool f.lost, .int .i64 f.copies, .int .i64 f.delay]
def faVals (f : Fa) : List Value := [.bool f.lost, .int .i64 f.copies, .int .i64 f.delay]
def Fa.right (f : Fa) : Bool := f.lost || decide (1 ≤ f.copies ∧ f.copies ≤ 9 ∧ 0 ≤ f.delay ∧ f.delay ≤ 100)
def Fa.many (f : Fa) : Nat := if f.lost then 0 else f.copies.toNat
def Fa.one : Fa := ⟨false, 1, 0⟩

structure FaAt (w : World) (b o : Nat) (f : Fa) : Prop where
  c0 : w.cell? ⟨b, o, none⟩ = some (.bool f.lost)
  c1 : w.cell? ⟨b, o + 1, none⟩ = some (.int .i64 f.copies)
  c2 : w.cell? ⟨b, o + 2, none⟩ = some (.int .i64 f.delay)
theorem FaAt.upd {F : List Nat} {w w' : World} {b o : Nat} {a : Fa} (h : FaAt w b o a) (hu : Upd F w w') (hb : b ∉ F) : FaAt w' b o a :=
  ⟨hu.cell h.c0 hb, hu.cell h.c1 hb, hu.cell h.c2 hb⟩
theorem FaAt.lt {w : World} {b o : Nat} {a : Fa} (h : FaAt w b o a) : b < w.heap.size := World.block_lt_of_cell? w _ h.c0
def FasAt (w : World) (b o : Nat) (l : List Fa) : Prop := ∀ i, (h : i < l.length) → FaAt w b (o + i * 3) l[i]
theorem FasAt.upd {F : List Nat} {w w' : World} {b o : Nat} {l : List Fa} (h : FasAt w b o l) (hu : Upd F w w') (hb : b ∉ F) : FasAt w' b o l :=
  fun i hi => (h i hi).upd hu hb
theorem FasAt.tail {w : World} {b o : Nat} {x : Fa} {l : List Fa} (h : FasAt w b o (x :: l)) : FasAt w b (o + 3) l := by
  intro i hi
  have := h (i + 1) (by simpa using hi)
  have e : o + (i + 1) * 3 = o + 3 + i * 3 := by omega
  rw [e] at this
  simpa using this

/-- A slice of fates; F: its block, if it holds any. -/
def FatesIn (w : World) (fv : Value) (l : List Fa) (F : Option Nat) : Prop :=
  ∃ a cap, fv = .slice a l.length cap ∧ l.length ≤ cap ∧ ((l = [] ∧ F = none) ∨ ∃ g o, a = some ⟨g, o, none⟩ ∧ F = some g ∧ l ≠ [] ∧ FasAt w g o l)

/-! ### The state -/
structure NS where
  ways : List (List Cp)
  fates : List Fa
  time : Nat
  number : Nat
  count : Nat

structure NFoot where
  B : Nat
  W : Nat
  F : Option Nat
  L : List (Option Nat)
def NFoot.list (f : NFoot) : List Nat := f.B :: f.W :: (f.F.toList ++ f.L.filterMap id)
theorem NFoot.mem {f : NFoot} {k : Nat} : k ∈ f.list ↔ k = f.B ∨ k = f.W ∨ f.F = some k ∨ some k ∈ f.L := by
  simp [NFoot.list]
structure NFoot.Ok (f : NFoot) : Prop where
  bw : f.B ≠ f.W
  fb : ∀ g : Nat, f.F = some g → g ≠ f.B ∧ g ≠ f.W
  lb : ∀ g : Nat, some g ∈ f.L → g ≠ f.B ∧ g ≠ f.W ∧ f.F ≠ some g
  li : ∀ i j g : Nat, f.L[i]? = some (some g) → f.L[j]? = some (some g) → i = j

def netCells (W n : Nat) (fv : Value) (t k c : Nat) : Array Value := #[.slice (some ⟨W, 0, none⟩) n n, fv, .int .i64 t, .int .i64 k, .int .i64 c]
def netObj (W n : Nat) (fv : Value) (t k c : Nat) : Obj := .cells (netCells W n fv t k c) 58 (0, 0)

structure NetAt (w : World) (base : Nat) (f : NFoot) (s : NS) : Prop where
  ok : f.Ok
  ge : ∀ k ∈ f.list, base ≤ k
  ex : ∃ (fv : Value) (vs : List Value), w.heap[f.B]? = some (netObj f.W s.ways.length fv s.time s.number s.count) ∧ w.heap[f.W]? = some (.cells vs.toArray 66 (0, 0)) ∧ vs.length = s.ways.length ∧ f.L = vs.map Value.ownBlock ∧
    (∀ (i : Nat) (v : Value) (l : List Cp), vs[i]? = some v → s.ways[i]? = some l → Seg w base 65 5 v l.length (l.flatMap cpVals)) ∧ FatesIn w fv s.fates f.F

theorem FatesIn.lt {w : World} {fv : Value} {l : List Fa} {F : Option Nat} (h : FatesIn w fv l F) : ∀ k, F = some k → k < w.heap.size := by
  obtain ⟨a, cap, rfl, hc, ⟨rfl, rfl⟩ | ⟨g, o, rfl, rfl, hne, hf⟩⟩ := h
  · intro k hk; cases hk
  · intro k hk
    obtain rfl : g = k := by simpa using hk
    exact (hf 0 (List.length_pos_iff.2 hne)).lt
theorem FatesIn.upd {w w' : World} {G : List Nat} {fv : Value} {l : List Fa} {F : Option Nat} (h : FatesIn w fv l F) (hu : Upd G w w') (hd : ∀ k, F = some k → k ∉ G) : FatesIn w' fv l F := by
  obtain ⟨a, cap, rfl, hc, ⟨rfl, rfl⟩ | ⟨g, o, rfl, rfl, hne, hf⟩⟩ := h
  · exact ⟨a, cap, rfl, hc, .inl ⟨rfl, rfl⟩⟩
  · exact ⟨_, cap, rfl, hc, .inr ⟨g, o, rfl, rfl, hne, hf.upd hu (hd g rfl)⟩⟩

theorem own_mem {vs : List Value} {g : Nat} (h : some g ∈ vs.map Value.ownBlock) : ∃ (i : Nat) (v : Value), vs[i]? = some v ∧ v.ownBlock = some g := by
  obtain ⟨v, hv, he⟩ := List.mem_map.1 h
  obtain ⟨i, hi⟩ := List.mem_iff_getElem?.1 hv
  exact ⟨i, v, hi, he⟩

theorem NetAt.lt {w : World} {base : Nat} {f : NFoot} {s : NS} (h : NetAt w base f s) : ∀ k ∈ f.list, k < w.heap.size := by
  obtain ⟨fv, vs, h1, h2, h3, h4, h5, h6⟩ := h.ex
  intro k hk
  rcases NFoot.mem.1 hk with rfl | rfl | hk | hk
  · exact (Array.getElem?_eq_some_iff.1 h1).1
  · exact (Array.getElem?_eq_some_iff.1 h2).1
  · exact h6.lt k hk
  · rw [h4] at hk
    obtain ⟨i, v, hv, ho⟩ := own_mem hk
    have hi : i < s.ways.length := by rw [← h3]; exact (List.getElem?_eq_some_iff.1 hv).1
    exact ((h5 i v _ hv (List.getElem?_eq_getElem hi)).lt k ho).2

theorem NetAt.upd {w w' : World} {base : Nat} {f : NFoot} {s : NS} (h : NetAt w base f s) {G : List Nat} (hu : Upd G w w') (hd : ∀ k ∈ f.list, k ∉ G) : NetAt w' base f s := by
  have hb : ∀ k ∈ f.list, w'.heap[k]? = w.heap[k]? := fun k hk => hu.block k (h.lt k hk) (hd k hk)
  obtain ⟨fv, vs, h1, h2, h3, h4, h5, h6⟩ := h.ex
  refine ⟨h.ok, h.ge, fv, vs, ?_, ?_, h3, h4, ?_, ?_⟩
  · rw [hb _ (NFoot.mem.2 (.inl rfl))]; exact h1
  · rw [hb _ (NFoot.mem.2 (.inr (.inl rfl)))]; exact h2
  · intro i v l hv hl
    refine (h5 i v l hv hl).upd fun k hk => hb k (NFoot.mem.2 (.inr (.inr (.inr ?_))))
    rw [h4, ← hk]
    exact List.mem_map.2 ⟨v, List.mem_of_getElem? hv, rfl⟩
  · exact h6.upd hu fun k hk => hd k (NFoot.mem.2 (.inr (.inr (.inl hk))))

/-- The receiver's cells. -/
theorem NetAt.cells {w : World} {base : Nat} {f : NFoot} {s : NS} (h : NetAt w base f s) : ∃ (fv : Value) (vs : List Value),
    w.cell? ⟨f.B, 0, none⟩ = some (.slice (some ⟨f.W, 0, none⟩) s.ways.length s.ways.length) ∧ w.cell? ⟨f.B, 1, none⟩ = some fv ∧ w.cell? ⟨f.B, 2, none⟩ = some (.int .i64 s.time) ∧ w.cell? ⟨f.B, 3, none⟩ = some (.int .i64 s.number) ∧ w.cell? ⟨f.B, 4, none⟩ = some (.int .i64 s.count) ∧
    (∀ i, w.frozen? ⟨f.B, i, none⟩ = false) ∧ (∀ i, w.frozen? ⟨f.W, i, none⟩ = false) ∧
    w.heap[f.B]? = some (netObj f.W s.ways.length fv s.time s.number s.count) ∧ w.heap[f.W]? = some (.cells vs.toArray 66 (0, 0)) ∧ vs.length = s.ways.length ∧ f.L = vs.map Value.ownBlock ∧
    (∀ (i : Nat) (v : Value) (l : List Cp), vs[i]? = some v → s.ways[i]? = some l → Seg w base 65 5 v l.length (l.flatMap cpVals)) ∧ FatesIn w fv s.fates f.F := by
  obtain ⟨fv, vs, h1, h2, h3, h4, h5, h6⟩ := h.ex
  refine ⟨fv, vs, ?_, ?_, ?_, ?_, ?_, ?_, ?_, h1, h2, h3, h4, h5, h6⟩
  · rw [cell_of_row w _ 0 _ 58 (0, 0) h1]; rfl
  · rw [cell_of_row w _ 1 _ 58 (0, 0) h1]; rfl
  · rw [cell_of_row w _ 2 _ 58 (0, 0) h1]; rfl
  · rw [cell_of_row w _ 3 _ 58 (0, 0) h1]; rfl
  · rw [cell_of_row w _ 4 _ 58 (0, 0) h1]; rfl
  · intro i; simp [World.frozen?, h1, netObj]
  · intro i; simp [World.frozen?, h2]

theorem NetAt.B_lt {w : World} {base : Nat} {f : NFoot} {s : NS} (h : NetAt w base f s) : f.B < w.heap.size := h.lt _ (NFoot.mem.2 (.inl rfl))

/-! ### has -/
def NS.has (s : NS) (x : Int) : Bool := decide (0 ≤ x ∧ x < s.ways.length)

set_option maxHeartbeats 400000 in
theorem has_any {w : World} {base : Nat} {f : NFoot} {s : NS} (h : NetAt w base f s) (hn : s.ways.length ≤ 12) (x : Int) :
    Calls Try.prog 30 #[.pointer (some ⟨f.B, 0, none⟩), .int .i64 x] w fun e w' => e = .returned (.bool (s.has x)) ∧ w = w' := by
  obtain ⟨fv, vs, c0, -⟩ := h.cells
  clear h
  have HH : Hid (s.has x = decide (0 ≤ x ∧ x < s.ways.length)) := rfl
  by_cases h1 : 0 ≤ x
  · go_enter Try.func30, Try.ntmps30
    go_wp2
    go_ret
    exact ⟨ret_bool (by rw [HH.out]; simp [h1]), rfl⟩
  · go_enter Try.func30, Try.ntmps30
    go_wp2
    go_ret
    exact ⟨ret_bool (by rw [HH.out]; simp; omega), rfl⟩

set_option maxHeartbeats 400000 in
theorem has_nil {w : World} (x : Int) :
    Calls Try.prog 30 #[.pointer none, .int .i64 x] w fun e w' => e = .returned (.bool false) ∧ w = w' := by
  go_enter Try.func30, Try.ntmps30
  go_wp2
  go_ret
  exact ⟨rfl, rfl⟩

/-! ### Step, Waiting -/
/-- What an operation does to memory. -/
structure NTurn (f f' : NFoot) (w w' : World) : Prop where
  upd : Upd f.list w w'
  sub : ∀ k ∈ f'.list, k ∈ f.list ∨ w.heap.size ≤ k
  B : f'.B = f.B
theorem NTurn.same {f : NFoot} {w w' : World} (h : Upd [] w w') : NTurn f f w w' := ⟨h.mono (by simp), fun _ hk => .inl hk, rfl⟩
theorem NTurn.trans {f g h : NFoot} {a b c : World} (x : NTurn f g a b) (y : NTurn g h b c) : NTurn f h a c :=
  ⟨x.upd.then y.upd x.sub, fun k hk => by
    rcases y.sub k hk with h1 | h1
    · exact x.sub k h1
    · exact .inr (Nat.le_trans x.upd.size h1), y.B.trans x.B⟩

theorem heap_setCell_self {w : World} {B o : Nat} {v : Value} {c : Array Value} {e : TypeId} {fr : Nat × Nat} (h : w.heap[B]? = some (.cells c e fr)) :
    (w.setCell ⟨B, o, none⟩ v).heap[B]? = some (.cells (c.setIfInBounds o v) e fr) := by
  simp only [World.setCell, Array.getElem?_modify, h]
  simp

/-- A store into the header. -/
theorem NetAt.head {w : World} {base : Nat} {f : NFoot} {s s' : NS} (h : NetAt w base f s) (o : Nat) (v : Value) (hw : s'.ways = s.ways) (hf : s'.fates = s.fates)
    (ho : ∀ fv, (netCells f.W s.ways.length fv s.time s.number s.count).setIfInBounds o v = netCells f.W s.ways.length fv s'.time s'.number s'.count) : NetAt (w.setCell ⟨f.B, o, none⟩ v) base f s' := by
  obtain ⟨fv, vs, h1, h2, h3, h4, h5, h6⟩ := h.ex
  have hu : Upd [f.B] w (w.setCell ⟨f.B, o, none⟩ v) := (Upd.refl _ _).setCell (.inl (by simp)) v
  refine ⟨h.ok, h.ge, fv, vs, ?_, ?_, by rw [hw]; exact h3, h4, ?_, ?_⟩
  · rw [heap_setCell_self h1, ho, hw]; rfl
  · rw [Below.heap_setCell _ _ _ _ (Ne.symm h.ok.bw)]; exact h2
  · intro i v' l hv hl
    rw [hw] at hl
    refine (h5 i v' l hv hl).upd fun k hk => Below.heap_setCell _ _ _ _ ?_
    have : some k ∈ f.L := by rw [h4, ← hk]; exact List.mem_map.2 ⟨v', List.mem_of_getElem? hv, rfl⟩
    exact (h.ok.lb k this).1
  · rw [hf]
    refine h6.upd hu fun k hk hm => ?_
    exact (h.ok.fb k hk).1 (by simpa using hm)

theorem NTurn.setB {f : NFoot} (w : World) (o : Nat) (v : Value) : NTurn f f w (w.setCell ⟨f.B, o, none⟩ v) :=
  ⟨(Upd.refl _ _).setCell (.inl (NFoot.mem.2 (.inl rfl))) v, fun _ hk => .inl hk, rfl⟩

def NS.step (s : NS) : NS := { s with time := s.time + 1 }
def NPost (base : Nat) (f : NFoot) (s : NS) (w w' : World) : Prop := ∃ f', NetAt w' base f' s ∧ NTurn f f' w w'

set_option maxHeartbeats 400000 in
theorem step_any {w : World} {base : Nat} {f : NFoot} {s : NS} (h : NetAt w base f s) (ht : s.time ≤ 1000000) :
    Calls Try.prog 19 #[.pointer (some ⟨f.B, 0, none⟩)] w fun e w' => e = .returned (.tuple #[]) ∧ NPost base f s.step w w' := by
  obtain ⟨fv, vs, c0, c1, c2, c3, c4, hfz, -⟩ := h.cells
  have HF : Hid (NPost base f s.step w (w.setCell ⟨f.B, 2, none⟩ (.int .i64 ((s.time : Int) + 1)))) :=
    ⟨f, h.head 2 _ rfl rfl (fun fv => by simp [netCells, NS.step]), NTurn.setB w 2 _⟩
  clear h c0 c1 c3 c4
  go_enter Try.func19, Try.ntmps19
  go_wp2
  first | go_end0 | refine bodyPost_ret (results_none rfl _ _ _) rfl ?_
  exact ⟨rfl, HF.out⟩
set_option maxHeartbeats 400000 in
theorem step_nil (w : World) : Calls Try.prog 19 #[.pointer none] w fun e w' => e = .returned (.tuple #[]) ∧ w = w' := by
  go_enter Try.func19, Try.ntmps19
  go_wp2
  first | go_end0 | refine bodyPost_ret (results_none rfl _ _ _) rfl ?_
  exact ⟨rfl, rfl⟩

set_option maxHeartbeats 400000 in
theorem waiting_any {w : World} {base : Nat} {f : NFoot} {s : NS} (h : NetAt w base f s) :
    Calls Try.prog 21 #[.pointer (some ⟨f.B, 0, none⟩)] w fun e w' => e = .returned (.int .i64 s.count) ∧ w = w' := by
  obtain ⟨fv, vs, c0, c1, c2, c3, c4, hfz, -⟩ := h.cells
  clear h c0 c1 c3 c2
  go_enter Try.func21, Try.ntmps21
  go_wp2
  go_ret
  exact ⟨rfl, rfl⟩
set_option maxHeartbeats 400000 in
theorem waiting_nil (w : World) : Calls Try.prog 21 #[.pointer none] w fun e w' => e = .returned (.int .i64 0) ∧ w = w' := by
  go_enter Try.func21, Try.ntmps21
  go_wp2
  go_ret
  exact ⟨rfl, rfl⟩
end Go.Proofs.Ytlmfgdibodpniaa
