/- (*Network).Receive. -/
import Derived.Test.YtlmfgdibodpniaaNet
import Derived.Deep.DeepCutAuto
import Derived.Deep.CutBlock
namespace Go.Proofs.Ytlmfgdibodpniaa
open Go.RowKit

/-! ### What Receive does, plain -/
def NS.way (s : NS) (h : Nat) : List Cp := s.ways.getD h []
def NS.taken (s : NS) (h : Nat) : List Cp := (s.way h).takeWhile (fun c => decide (c.t ≤ s.time))
def NS.recv (s : NS) (h : Nat) : NS := { s with ways := s.ways.set h ((s.way h).drop (s.taken h).length), count := s.count - (s.taken h).length }
def NS.got (s : NS) (h : Nat) : List Pk := (s.taken h).map Cp.p

theorem takeWhile_len_le {α : Type} (p : α → Bool) (l : List α) : (l.takeWhile p).length ≤ l.length := by
  induction l with
  | nil => simp
  | cons a l ih => simp only [List.takeWhile_cons]; split <;> simp; omega
theorem takeWhile_at {α : Type} (p : α → Bool) (l : List α) : ∀ i, (h : i < l.length) → i < (l.takeWhile p).length → p l[i] = true := by
  induction l with
  | nil => intro i h; simp at h
  | cons a l ih =>
    intro i h hi
    simp only [List.takeWhile_cons] at hi
    split at hi
    · cases i with
      | zero => assumption
      | succ i => simp only [List.length_cons] at hi h; simpa using ih i (by omega) (by omega)
    · simp at hi
theorem takeWhile_end {α : Type} (p : α → Bool) (l : List α) : (h : (l.takeWhile p).length < l.length) → p l[(l.takeWhile p).length] = false := by
  induction l with
  | nil => intro h; simp at h
  | cons a l ih =>
    intro h
    simp only [List.takeWhile_cons] at h ⊢
    by_cases hp : p a = true
    · simp only [hp, if_true, List.length_cons] at h ⊢
      simpa using ih (by omega)
    · simp only [hp] at h ⊢
      simpa using hp
theorem takeWhile_take {α : Type} (p : α → Bool) (l : List α) : l.takeWhile p = l.take (l.takeWhile p).length := by
  induction l with
  | nil => rfl
  | cons a l ih =>
    simp only [List.takeWhile_cons]
    split
    · simp only [List.length_cons, List.take_succ_cons]; rw [← ih]
    · simp

theorem drewN_add (w : World) (a b : Nat) : (w.drewN a).drewN b = w.drewN (a + b) := by
  simp [World.drewN, Nat.add_assoc]

/-- The slice behind a slice: s[m:n:n]. -/
theorem Seg.rest {w : World} {base : Nat} {a : Option Addr} {n cap : Nat} {xs : List Value} (h : Seg w base 65 5 (.slice a n cap) n xs) (m : Nat) (hm : m ≤ n) :
    Seg w base 65 5 (.slice (if n = m then a else a.map (·.add (m * 5))) (n - m) (n - m)) (n - m) (xs.drop (m * 5)) := by
  obtain ⟨h1, h2⟩ := h
  refine ⟨by rw [List.length_drop, h1]; omega, ?_⟩
  rcases h2 with ⟨hv, hn⟩ | ⟨g, o, cap', cur, hv, hbg, hg, hnc, hcm, hfit, hpos, hx⟩
  · obtain ⟨rfl, -, -⟩ : a = none ∧ n = 0 ∧ cap = 0 := by simpa using hv
    subst hn
    exact .inl ⟨by simp, by omega⟩
  · obtain ⟨rfl, -, rfl⟩ : a = some ⟨g, o, none⟩ ∧ n = n ∧ cap = cap' := by simpa using hv
    right
    by_cases he : n = m
    · refine ⟨g, o, n - m, cur, by rw [if_pos he], hbg, hg, Nat.le_refl _, by omega, by omega, hpos, ?_⟩
      subst he
      simp
      have : xs.length ≤ n * 5 := by omega
      omega
    · refine ⟨g, o + m * 5, n - m, cur, by rw [if_neg he]; simp [Addr.add_lit], hbg, hg, Nat.le_refl _, by omega, by omega, hpos, ?_⟩
      rw [← hx, List.drop_take, List.drop_drop]
      congr 1
      omega

def PksAt (w : World) (base : Nat) (v : Value) (l : List Pk) : Prop := w.ownsRow base 31 3 v l.length (l.flatMap pkVals)

theorem info31 : (Try.prog.info? 31).map (fun i => (i.zero, i.size, i.bytes)) = some (some (.agg #[.int .i64 0, .int .i64 0, .string ByteArray.empty]), 3, 32) := by kernel_rfl

/-- A way's new slice in its place, and the count. -/
theorem NetAt.recv {w : World} {base : Nat} {f : NFoot} {s : NS} (h : NetAt w base f s) (i : Nat) (hi : i < s.ways.length) (a : Option Addr) (cap : Nat) (hv : w.cell? ⟨f.W, i, none⟩ = some (.slice a (s.way i).length cap)) :
    NetAt ((w.setCell ⟨f.W, i, none⟩ (.slice (if (s.way i).length = (s.taken i).length then a else a.map (·.add ((s.taken i).length * 5))) ((s.way i).length - (s.taken i).length) ((s.way i).length - (s.taken i).length))).setCell ⟨f.B, 4, none⟩ (.int .i64 ((s.count - (s.taken i).length : Nat) : Int))) base f (s.recv i) := by
  have hsl : s.ways[i]? = some (s.way i) := by rw [NS.way, List.getD_eq_getElem?_getD, List.getElem?_eq_getElem hi]; rfl
  obtain ⟨m, hm⟩ : ∃ m, m = (s.taken i).length := ⟨_, rfl⟩
  have hml : m ≤ (s.way i).length := by rw [hm]; exact takeWhile_len_le _ _
  rw [← hm]
  obtain ⟨rv, hrv⟩ : ∃ rv : Value, rv = .slice (if (s.way i).length = m then a else a.map (·.add (m * 5))) ((s.way i).length - m) ((s.way i).length - m) := ⟨_, rfl⟩
  rw [← hrv]
  have h1 : NetAt (w.setCell ⟨f.W, i, none⟩ rv) base f { s with ways := s.ways.set i ((s.way i).drop m) } := by
    obtain ⟨fv, vs, h1, h2, h3, h4, h5, h6⟩ := h.ex
    have hvi : vs[i]? = some (.slice a (s.way i).length cap) := by
      rw [cell_of_row w f.W i _ 66 (0, 0) h2] at hv
      simpa using hv
    have hu : Upd [f.W] w (w.setCell ⟨f.W, i, none⟩ rv) := (Upd.refl _ _).setCell (.inl (by simp)) rv
    have hrvo : rv.ownBlock = (Value.slice a (s.way i).length cap).ownBlock := by
      rw [hrv]
      split
      · cases a with
        | none => rfl
        | some a => cases a; rfl
      · cases a with
        | none => rfl
        | some a => cases a; simp only [Option.map_some, Addr.add]; split <;> rfl
    refine ⟨h.ok, h.ge, fv, vs.set i rv, ?_, ?_, by simpa using h3, ?_, ?_, ?_⟩
    · rw [Below.heap_setCell _ _ _ _ h.ok.bw]; simpa using h1
    · rw [heap_setCell_self h2]; simp
    · rw [h4]
      apply List.ext_getElem?
      intro j
      rw [List.getElem?_map, List.getElem?_map, List.getElem?_set]
      by_cases e : i = j
      · subst e
        rw [if_pos rfl, if_pos (by omega), hvi]
        simp [hrvo]
      · rw [if_neg e]
    · intro j v' l hv' hl
      rw [List.getElem?_set] at hv' hl
      by_cases e : i = j
      · subst e
        rw [if_pos rfl, if_pos (by omega)] at hv' hl
        simp only [Option.some.injEq] at hv' hl
        subst hv'; subst hl
        have := (h5 i _ _ hvi hsl).rest m hml
        rw [flat5_drop] at this
        rw [List.length_drop]
        rw [hrv]
        refine this.upd fun k hk => Below.heap_setCell _ _ _ _ ?_
        have hmem : some k ∈ f.L := by
          rw [h4, ← hk, ← hrv, hrvo]; exact List.mem_map.2 ⟨_, List.mem_of_getElem? hvi, rfl⟩
        exact (h.ok.lb k hmem).2.1
      · rw [if_neg e] at hv' hl
        refine (h5 j v' l hv' hl).upd fun k hk => Below.heap_setCell _ _ _ _ ?_
        have hmem : some k ∈ f.L := by rw [h4, ← hk]; exact List.mem_map.2 ⟨_, List.mem_of_getElem? hv', rfl⟩
        exact (h.ok.lb k hmem).2.1
    · refine h6.upd hu fun k hk hm' => ?_
      exact (h.ok.fb k hk).2 (by simpa using hm')
  refine h1.head 4 _ ?_ rfl (fun fv => ?_)
  · simp only [NS.recv]; rw [← hm]
  · simp only [NS.recv]; rw [← hm]; simp [netCells]

theorem PksAt.mono {w : World} {b b' : Nat} {v : Value} {l : List Pk} (h : PksAt w b v l) (hb : b' ≤ b) : PksAt w b' v l := by
  obtain ⟨h1, h2⟩ := h
  refine ⟨h1, ?_⟩
  rcases h2 with h2 | ⟨g, cap, cur, rfl, hg, r⟩
  · exact .inl h2
  · exact .inr ⟨g, cap, cur, rfl, Nat.le_trans hb hg, r⟩
theorem PksAt.upd {w w' : World} {b : Nat} {v : Value} {l : List Pk} (h : PksAt w b v l) (hb : ∀ k, v.ownBlock = some k → w'.heap[k]? = w.heap[k]?) : PksAt w' b v l := ownsRow_upd h hb
theorem PksAt.ge {w : World} {b : Nat} {v : Value} {l : List Pk} (h : PksAt w b v l) : ∀ k, v.ownBlock = some k → b ≤ k := fun k hk => (World.ownsRow.lt h k hk).1
theorem pk_one {l : List Pk} {u : Value} (h : u ∈ l.flatMap pkVals) : u.oneCell' = true := by
  obtain ⟨c, _, hu⟩ := List.mem_flatMap.1 h
  simp only [pkVals, List.mem_cons, List.not_mem_nil, or_false] at hu
  rcases hu with rfl | rfl | rfl <;> rfl

/-- One packet more. -/
theorem wpList_append_pk {ops : Array Oper} {rest : List Oper} {o : Oper} {a : Act} {w : World} {Q : Exit → Act → World → Prop} (hgd : o.guard = none) (s x : Operand)
    (ho : o.op = .call { callee := .builtin .append, args := #[s, x], argTypes := #[36, 36] })
    (base : Nat) (v : Value) (l : List Pk) (hs : a.eval s = v) (hown : Hid (PksAt w base v l))
    (X : Nat) (p : Pk) (hx : a.eval x = .slice (some ⟨X, 0, none⟩) 1 1) (hX : w.heap[X]? = some (.cells (pkVals p).toArray 31 (0, 0))) (hl : l.length ≤ 100000) (hbase : base ≤ w.heap.size)
    (h : ∀ g cap w', Hid (PksAt w' base (.slice (some ⟨g, 0, none⟩) (l.length + 1) cap) (l ++ [p])) → Hid (w.grownBy w' v.ownBlock) → Hid (v.ownBlock = some g ∨ g = w.heap.size) → wpList Try.prog ops Q rest (a.put o.dst (.slice (some ⟨g, 0, none⟩) (l.length + 1) cap)) w') :
    wpList Try.prog ops Q (o :: rest) a w := by
  obtain ⟨i0, hi0, hz0, hz1, hz2⟩ := info_parts info31
  refine wpList_append_own2 w hgd s x 36 ho base 31 i0 _ 3 32 Try.underlying36 hi0 hz0 hz1 hz2 rfl (by decide) v l.length (l.flatMap pkVals) hs hown.out ⟨X, 0, none⟩ 1 1 (pkVals p) hx rfl ?_ ?_ (by decide) (by unfold maxLen; omega) (by omega) hbase ?_
  · intro j u hj
    rw [Addr.add_lit, cell_of_row w X (0 + j) _ 31 (0, 0) hX]
    simpa using hj
  · intro u hu; exact pk_one (l := [p]) (by simpa using hu)
  · intro g cap w' h1 h2 h3
    refine h g cap w' ?_ h2 h3
    show w'.ownsRow base 31 3 _ _ _
    rw [List.length_append, List.flatMap_append]
    simpa using h1

theorem PksAt.alloc {w : World} {b : Nat} {v : Value} {l : List Pk} (h : PksAt w b v l) (o : Obj) : PksAt (w.alloc o) b v l := World.ownsRow.alloc h o
theorem PksAt.drew {w : World} {b : Nat} {v : Value} {l : List Pk} (h : PksAt w b v l) : PksAt w.drew b v l := World.ownsRow.drew h
/-- The same where the packet has just been laid into a block of its own, behind another new block. -/
theorem wpList_append_pk2 {ops : Array Oper} {rest : List Oper} {o : Oper} {a : Act} {w : World} {Q : Exit → Act → World → Prop} (hgd : o.guard = none) (s x : Operand)
    (ho : o.op = .call { callee := .builtin .append, args := #[s, x], argTypes := #[36, 36] })
    (base : Nat) (v : Value) (l : List Pk) (hs : a.eval s = v) (hown : Hid (PksAt w base v l)) (A : Obj)
    (p : Pk) (hx : a.eval x = .slice (some ⟨w.heap.size + 1, 0, none⟩) 1 1) (hl : l.length ≤ 100000) (hbase : base ≤ w.heap.size)
    (h : ∀ g cap w', Hid (PksAt w' base (.slice (some ⟨g, 0, none⟩) (l.length + 1) cap) (l ++ [p])) → Hid (((w.alloc A).alloc (.cells (pkVals p).toArray 31)).grownBy w' v.ownBlock) → Hid (v.ownBlock = some g ∨ w.heap.size ≤ g) → wpList Try.prog ops Q rest (a.put o.dst (.slice (some ⟨g, 0, none⟩) (l.length + 1) cap)) w') :
    wpList Try.prog ops Q (o :: rest) a ((w.alloc A).alloc (.cells (pkVals p).toArray 31)) := by
  have hz : (w.alloc A).heap.size = w.heap.size + 1 := by simp
  refine wpList_append_pk hgd s x ho base v l hs ((hown.out.alloc _).alloc _) (w.heap.size + 1) p hx (by rw [← hz]; exact heap_alloc_new _ _) hl (by simp; omega) ?_
  intro g cap w' h1 h2 h3
  refine h g cap w' h1 h2 ?_
  rcases h3.out with h | h
  · exact .inl h
  · right; simp at h; omega

theorem upd_grown_new {w w1 w' : World} {base : Nat} {v : Value} {l : List Pk} (hu : Upd [] w w1) (hg : w1.grownBy w' v.ownBlock) (hp : PksAt w1 base v l) (hb : w.heap.size ≤ base) : Upd [] w w' :=
  hu.grown hg fun k hk => .inr (Nat.le_trans hb (hp.ge k hk))

def RecvPost (base : Nat) (f : NFoot) (s s' : NS) (out : List Pk) (w : World) (e : Ending) (w' : World) : Prop :=
  ∃ v, e = .returned (.tuple #[v, .int .i64 0]) ∧ PksAt w' w.heap.size v out ∧ NetAt w' base f s' ∧ Upd f.list w w'

set_option maxHeartbeats 4000000 in
theorem recv_any {w : World} {base : Nat} {f : NFoot} {s : NS} (h : NetAt w base f s) (hn12 : s.ways.length ≤ 12) (i : Nat) (hi : i < s.ways.length) (hl : (s.way i).length ≤ 4000) (hcn : (s.taken i).length ≤ s.count) (hct : s.count ≤ 4000) :
    Calls Try.prog 16 #[.pointer (some ⟨f.B, 0, none⟩), .int .i64 i] w (RecvPost base f s (s.recv i) (s.got i) w) := by
  obtain ⟨i0, hi0, hz0, hz1, hz2⟩ := info_parts info31
  obtain ⟨fv, vs, c0, c1, c2, c3, c4, hfz, hfw, h1, h2, h3, h4, h5, h6⟩ := h.cells
  have hhas := has_any h hn12 i
  have hb : s.has i = true := by simp [NS.has, hi]
  rw [hb] at hhas
  have HHAS := Lib.hid hhas
  clear hhas hb
  obtain ⟨l, hwl⟩ : ∃ l, l = s.way i := ⟨_, rfl⟩
  have hsl : s.ways[i]? = some l := by rw [hwl, NS.way, List.getD_eq_getElem?_getD, List.getElem?_eq_getElem hi]; rfl
  rw [← hwl] at hl
  obtain ⟨v, hv⟩ : ∃ v, vs[i]? = some v := ⟨vs[i]'(by omega), List.getElem?_eq_getElem _⟩
  have hseg := h5 i v l hv hsl
  have hw1 : w.cell? ⟨f.W, i, none⟩ = some v := by rw [cell_of_row w f.W i _ 66 (0, 0) h2]; simpa using hv
  obtain ⟨a, cap, rfl, hc1, hc2, hc3⟩ := hseg.form
  obtain ⟨m, hm⟩ : ∃ m, m = (l.takeWhile (fun c => decide (c.t ≤ s.time))).length := ⟨_, rfl⟩
  have hmt : m = (s.taken i).length := by rw [hm, hwl]; rfl
  have hml : m ≤ l.length := by rw [hm]; exact takeWhile_len_le _ _
  have HLO : Hid (∀ j, (h : j < l.length) → j < m → l[j].t ≤ s.time) := fun j h hj => of_decide_eq_true (takeWhile_at (fun c : Cp => decide (c.t ≤ s.time)) l j h (by rw [← hm]; exact hj))
  have HHI : Hid (∀ (h : m < l.length), ¬ l[m].t ≤ s.time) := fun h => by
    have := takeWhile_end (fun c : Cp => decide (c.t ≤ s.time)) l (by rw [← hm]; exact h)
    simp only [← hm] at this
    simpa using this
  have HCP : Hid (∀ j, (h : j < l.length) → ∃ g o, a = some ⟨g, o, none⟩ ∧ g ∈ f.list ∧ g ≠ f.W ∧ g ≠ f.B ∧ CpAt w g (o + j * 5) l[j]) := by
    intro j hj
    rcases hseg.2 with ⟨hv', hn'⟩ | ⟨g, o, cap', cur, hv', hbg, hg, hnc, hcm, hfit, hpos, hx⟩
    · omega
    · obtain ⟨rfl, -, rfl⟩ : a = some ⟨g, o, none⟩ ∧ l.length = l.length ∧ cap = cap' := by simpa using hv'
      have hmem : some g ∈ f.L := by rw [h4]; exact List.mem_map.2 ⟨_, List.mem_of_getElem? hv, rfl⟩
      refine ⟨g, o, rfl, NFoot.mem.2 (.inr (.inr (.inr hmem))), (h.ok.lb g hmem).2.1, (h.ok.lb g hmem).1, ?_, ?_, ?_, ?_, ?_⟩
      · have := hseg.cells rfl (j * 5 + 0) _ (flat5_get l j 0 hj (by decide)); exact this
      · have := hseg.cells rfl (j * 5 + 1) _ (flat5_get l j 1 hj (by decide)); rw [← Nat.add_assoc] at this; exact this
      · have := hseg.cells rfl (j * 5 + 2) _ (flat5_get l j 2 hj (by decide)); rw [← Nat.add_assoc] at this; exact this
      · have := hseg.cells rfl (j * 5 + 3) _ (flat5_get l j 3 hj (by decide)); rw [← Nat.add_assoc] at this; exact this
      · have := hseg.cells rfl (j * 5 + 4) _ (flat5_get l j 4 hj (by decide)); rw [← Nat.add_assoc] at this; exact this
  have hmc : m ≤ s.count := by rw [hm, hwl]; exact hcn
  have hbw : ¬ f.B = f.W := h.ok.bw
  have hbw' : ¬ f.W = f.B := fun e => hbw e.symm
  have HNET : Hid (∀ q W, W = ((w.drewN q).setCell ⟨f.W, i, none⟩ (.slice (if l.length = m then a else a.map (·.add (m * 5))) (l.length - m) (l.length - m))).setCell ⟨f.B, 4, none⟩ (.int .i64 ((s.count : Int) - m)) → NetAt W base f (s.recv i) ∧ Upd f.list w W ∧ ∀ j, (h : j < l.length) → ∃ g o, a = some ⟨g, o, none⟩ ∧ CpAt W g (o + j * 5) l[j]) := by
    intro q W hW
    have hu1 : Upd [f.W, f.B] w W := by
      rw [hW]
      exact (((Upd.drewN _ w q)).setCell (.inl (by simp)) _).setCell (.inl (by simp)) _
    refine ⟨?_, hu1.mono (by simp [NFoot.mem]), ?_⟩
    · have := (h.upd (G := []) (Upd.drewN _ w q) (by simp)).recv i hi a cap (by rw [← hwl]; exact hw1)
      rw [← hwl, ← hmt] at this
      have e : ((s.count : Int) - m) = ((s.count - m : Nat) : Int) := by omega
      rw [hW, e]; exact this
    · intro j hj
      obtain ⟨g, o, ha, -, n1, n2, hc⟩ := HCP.out j hj
      exact ⟨g, o, ha, hc.upd hu1 (by simp [n1, n2])⟩
  have HGOT : Hid (s.got i = (l.take m).map Cp.p) := by
    unfold NS.got
    have e : s.taken i = l.take m := by rw [hwl, hmt, NS.taken]; exact takeWhile_take _ _
    rw [e]; rfl
  obtain ⟨n, hn⟩ : ∃ n, n = l.length := ⟨_, rfl⟩
  rw [← hn] at hw1 hc1 hl hml
  have HN := Lib.hid hn
  have HM := Lib.hid hm
  have HC3 := Lib.hid hc3
  have hti : (i : Int) < (s.ways.length : Int) := by omega
  unfold maxLen at hc2
  clear hcn hm hmt h1 h2 h3 h4 h5 h6 hwl hsl hv hc3 hseg c1 c3 h hn
  go_enter Try.func16, Try.ntmps16
  go_upto_block 0 with (go_at_call 30; refine HHAS.out.mono ?_; rintro e w' ⟨rfl, rfl⟩)
  go_cut [7] (fun k w' => k = .int .i64 m ∧ ∃ q, w' = w.drewN q)
  case first =>
    go_wp2_with fail
    go_loopw [7] (fun k wr => ∃ j : Nat, j ≤ m ∧ k = .int .i64 j ∧ ∃ q, wr = w.drewN q) (fun k _ => n - (intOf k).toNat)
    case atStart => exact ⟨0, Nat.zero_le _, rfl, 0, rfl⟩
    case round =>
      obtain ⟨j, hj, rfl, q, rfl⟩ := hrel
      by_cases hlt : j < n
      · have hltl : j < l.length := by rw [← HN.out]; exact hlt
        obtain ⟨g, o, ha, -, -, -, hcp⟩ := HCP.out j hltl
        subst ha
        have g3 := hcp.c3
        by_cases hle : j < m
        · have hle' := HLO.out j hltl hle
          obtain ⟨y, hy⟩ : ∃ y, y = l[j] := ⟨_, rfl⟩
          rw [← hy] at g3 hle'
          clear hcp hy
          have hd : decide ((j : Int) < (n : Int)) = true := by simpa using hlt
          have hd2 : decide ((y.t : Int) ≤ (s.time : Int)) = true := by simpa using hle'
          go_wp2_with fail
          go_quiet (fail)
          go_wp2
          go_roundw
          case rel => exact ⟨j + 1, by omega, by go_num, q + nq, rfl⟩
          case measure => simp [intOf]; omega
        · obtain rfl : j = m := by omega
          have hle' := HHI.out hltl
          obtain ⟨y, hy⟩ : ∃ y, y = l[j] := ⟨_, rfl⟩
          rw [← hy] at g3 hle'
          clear hcp hy
          have hd : decide ((j : Int) < (n : Int)) = true := by simpa using hlt
          have hd2 : decide ((y.t : Int) ≤ (s.time : Int)) = false := by simpa using hle'
          go_wp2_with fail
          go_quiet (fail)
          go_wp2
          go_meet
          exact ⟨rfl, q + nq, drewN_add _ _ _⟩
      · obtain rfl : j = m := by omega
        have hd : decide ((j : Int) < (n : Int)) = false := by simpa using hlt
        go_wp2_with fail
        go_quiet (fail)
        go_wp2
        go_meet
        exact ⟨rfl, q + nq, drewN_add _ _ _⟩
  case rest =>
    obtain ⟨rfl, q, rfl⟩ := hcut
    have hmn : m ≤ n := hml
    have HI : Hid (Try.prog.info? 31 = some i0) := hi0
    clear hi0
    by_cases hnm : n = m
    case' pos =>
      obtain rfl : m = n := hnm.symm
      go_wp2_with fail
      go_quiet (fail)
      go_wp2
      generalize hW : (((w.drewN (q + nq)).setCell { block := f.W, off := i } (Value.slice a 0 0)).setCell { block := f.B, off := 4 } (Value.int IntKind.i64 (s.count - m))) = W
      obtain ⟨x1, x2, x3⟩ := HNET.out (q + nq) W (by rw [← hW, ← HN.out]; simp)
    case' neg =>
      obtain ⟨g, o, ha, -⟩ := HCP.out m (by have := HN.out; omega)
      subst ha
      go_wp2_with fail
      go_quiet (fail)
      go_wp2
      generalize hW : (((w.drewN (q + nq)).setCell { block := f.W, off := i } (Value.slice (some { block := g, off := o + m * 5 }) (n - m) (n - m))).setCell { block := f.B, off := 4 } (Value.int IntKind.i64 (s.count - m))) = W
      obtain ⟨x1, x2, x3⟩ := HNET.out (q + nq) W (by rw [← hW, ← HN.out, if_neg hnm]; simp [Addr.add_lit])
    all_goals
      clear hW HNET c0 c2 c4 hfz hfw HHAS hw1 hbw hbw' HLO HHI HCP
      have X1 := Lib.hid x1
      have X2 := Lib.hid x2
      have X3 := Lib.hid x3
      clear x1 x2 x3
      go_loopw [10, 70] (fun out k wr => ∃ j : Nat, j ≤ m ∧ k = .int .i64 j ∧ Hid (PksAt wr W.heap.size out ((l.take j).map Cp.p)) ∧ Hid (Upd [] W wr)) (fun _ k _ => m - (intOf k).toNat)
      case atStart => exact ⟨0, Nat.zero_le _, rfl, World.ownsRow_nil _ _ _ _, Upd.refl _ _⟩
      case round =>
        obtain ⟨j, hj, rfl, hown, hupd⟩ := hrel
        by_cases hlt : j < m
        · have hjl : j < l.length := by have := HN.out; omega
          obtain ⟨g', o', ha', hcp⟩ := X3.out j hjl
          have hcp := hcp.upd hupd.out (by simp)
          have htk : (l.take (j + 1)).map Cp.p = (l.take j).map Cp.p ++ [l[j].p] := by rw [List.take_succ_eq_append_getElem hjl, List.map_append]; rfl
          obtain ⟨y, hy⟩ : ∃ y, y = l[j] := ⟨_, rfl⟩
          rw [← hy] at hcp htk
          have hlen : ((l.take j).map Cp.p).length = j := by rw [List.length_map, List.length_take]; omega
          obtain ⟨lj, hlj⟩ : ∃ lj, lj = (l.take j).map Cp.p := ⟨_, rfl⟩
          rw [← hlj] at hown htk hlen
          have HTK := Lib.hid htk
          have hlj2 : lj.length ≤ 100000 := by omega
          have HLN := Lib.hid hlen
          obtain ⟨⟨y0, y1, y2⟩, yt, yk⟩ := y
          obtain ⟨g0, g1, g2, g3, g4⟩ := hcp
          simp only at g0 g1 g2 g3 g4
          have hWs := hupd.out.size
          clear hy hlj htk hlen
          cases ha'
          go_wp2_with (at_builtin; refine wpList_append_pk2 rfl _ _ rfl W.heap.size _ lj rfl hown _ ⟨y0, y1, y2⟩ rfl hlj2 hWs ?_; intro g cap w' hp1 hg1 hd1)
          refine ⟨⟨j + 1, by omega, by go_num, ?_, ?_⟩, by simp [intOf]; omega⟩
          · unfold Hid; rw [HTK.out]; exact hp1.out
          · exact ((hupd.out.alloc _).alloc _).grown hg1.out (fun k hk => .inr (PksAt.ge hown.out k hk))
        · obtain rfl : j = m := by omega
          have HFIN : Hid (RecvPost base f s (s.recv i) (s.got i) w (.returned (.tuple #[u10, .int .i64 0])) wr) := by
            refine ⟨_, rfl, ?_, X1.out.upd hupd.out (by simp), X2.out.trans (hupd.out.mono (by simp))⟩
            rw [HGOT.out]
            exact PksAt.mono hown.out X2.out.size
          clear X1 X2 X3 hown hupd
          go_wp2
          go_ret2
          exact HFIN.out

set_option maxHeartbeats 400000 in
theorem recv_bad {w : World} {base : Nat} {f : NFoot} {s : NS} (h : NetAt w base f s) (hn12 : s.ways.length ≤ 12) (x : Int) (hx : s.has x = false) :
    Calls Try.prog 16 #[.pointer (some ⟨f.B, 0, none⟩), .int .i64 x] w fun e w' => e = .returned (.tuple #[.slice none 0 0, .int .i64 1]) ∧ w = w' := by
  have hhas := has_any h hn12 x
  rw [hx] at hhas
  have HHAS := Lib.hid hhas
  clear hhas hx h
  go_enter Try.func16, Try.ntmps16
  go_wp2_with (go_at_call 30; refine HHAS.out.mono ?_; rintro e w' ⟨rfl, rfl⟩)
  go_ret2
  exact ⟨rfl, rfl⟩
set_option maxHeartbeats 400000 in
theorem recv_nil {w : World} (x : Int) :
    Calls Try.prog 16 #[.pointer none, .int .i64 x] w fun e w' => e = .returned (.tuple #[.slice none 0 0, .int .i64 1]) ∧ w = w' := by
  go_enter Try.func16, Try.ntmps16
  go_wp2_with (go_at_call 30; refine (has_nil _).mono ?_; rintro e w' ⟨rfl, rfl⟩)
  go_ret2
  exact ⟨rfl, rfl⟩
end Go.Proofs.Ytlmfgdibodpniaa
