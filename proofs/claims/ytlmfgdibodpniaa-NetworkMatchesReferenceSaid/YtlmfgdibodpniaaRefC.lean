/- The reference network, walked: its state in memory, the small functions, New. -/
import Derived.Test.YtlmfgdibodpniaaRefSel
import Derived.Test.YtlmfgdibodpniaaFates
namespace Go.Proofs.Ytlmfgdibodpniaa
open Go.RowKit

/-! ### Rows of copies -/
def rcVals (c : Rc) : List Value := [.int .i64 c.1.src, .int .i64 c.1.dst, .string c.1.body, .int .i64 c.2]
theorem info75 : (Try.prog.info? 75).map (fun i => (i.zero, i.size, i.bytes)) = some (some (.agg #[.int .i64 0, .int .i64 0, .string ByteArray.empty, .int .i64 0]), 4, 40) := by kernel_rfl
theorem rc4_len (l : List Rc) : (l.flatMap rcVals).length = l.length * 4 := by
  induction l with
  | nil => rfl
  | cons a l ih => simp only [List.flatMap_cons, List.length_append, ih, List.length_cons, rcVals, List.length_nil]; omega
theorem rc_one {l : List Rc} {u : Value} (h : u ∈ l.flatMap rcVals) : u.oneCell' = true := by
  obtain ⟨c, _, hu⟩ := List.mem_flatMap.1 h
  simp only [rcVals, List.mem_cons, List.not_mem_nil, or_false] at hu
  rcases hu with rfl | rfl | rfl | rfl <;> rfl
theorem rc4_get (l : List Rc) (i j : Nat) (hi : i < l.length) (hj : j < 4) : (l.flatMap rcVals)[i * 4 + j]? = (rcVals l[i])[j]? := by
  induction l generalizing i with
  | nil => simp at hi
  | cons a l ih =>
    cases i with
    | zero => rw [List.flatMap_cons, Nat.zero_mul, Nat.zero_add, List.getElem?_append_left (by simpa [rcVals] using hj)]; rfl
    | succ i =>
      have e : (i + 1) * 4 + j = 4 + (i * 4 + j) := by omega
      have h3 : (rcVals a).length = 4 := rfl
      rw [List.flatMap_cons, e, List.getElem?_append_right (by rw [h3]; omega), h3]
      have e2 : 4 + (i * 4 + j) - 4 = i * 4 + j := by omega
      rw [e2, ih i (by simpa using hi)]
      rfl
def CpsAt (w : World) (base : Nat) (v : Value) (L : List Rc) : Prop := w.ownsRow base 75 4 v L.length (L.flatMap rcVals)
theorem CpsAt.ge {w : World} {b : Nat} {v : Value} {L : List Rc} (h : CpsAt w b v L) : ∀ k, v.ownBlock = some k → b ≤ k := fun k hk => (World.ownsRow.lt h k hk).1
theorem CpsAt.lt {w : World} {b : Nat} {v : Value} {L : List Rc} (h : CpsAt w b v L) : ∀ k, v.ownBlock = some k → k < w.heap.size := fun k hk => (World.ownsRow.lt h k hk).2
theorem CpsAt.alloc {w : World} {b : Nat} {v : Value} {L : List Rc} (h : CpsAt w b v L) (o : Obj) : CpsAt (w.alloc o) b v L := World.ownsRow.alloc h o
theorem CpsAt.drew {w : World} {b : Nat} {v : Value} {L : List Rc} (h : CpsAt w b v L) : CpsAt w.drew b v L := World.ownsRow.drew h
theorem CpsAt.upd {w w' : World} {b : Nat} {v : Value} {L : List Rc} (h : CpsAt w b v L) (hb : ∀ k, v.ownBlock = some k → w'.heap[k]? = w.heap[k]?) : CpsAt w' b v L := ownsRow_upd h hb
theorem CpsAt.mono {w : World} {b b' : Nat} {v : Value} {l : List Rc} (h : CpsAt w b v l) (hb : b' ≤ b) : CpsAt w b' v l := by
  obtain ⟨h1, h2⟩ := h
  refine ⟨h1, ?_⟩
  rcases h2 with h2 | ⟨g, cap, cur, rfl, hg, r⟩
  · exact .inl h2
  · exact .inr ⟨g, cap, cur, rfl, Nat.le_trans hb hg, r⟩
theorem CpsAt.nil (w : World) (b : Nat) : CpsAt w b (.slice none 0 0) [] := World.ownsRow_nil _ _ _ _
structure RcAt (w : World) (b o : Nat) (c : Rc) : Prop where
  c0 : w.cell? ⟨b, o, none⟩ = some (.int .i64 c.1.src)
  c1 : w.cell? ⟨b, o + 1, none⟩ = some (.int .i64 c.1.dst)
  c2 : w.cell? ⟨b, o + 2, none⟩ = some (.string c.1.body)
  c3 : w.cell? ⟨b, o + 3, none⟩ = some (.int .i64 c.2)
theorem RcAt.upd {F : List Nat} {w w' : World} {b o : Nat} {a : Rc} (h : RcAt w b o a) (hu : Upd F w w') (hb : b ∉ F) : RcAt w' b o a :=
  ⟨hu.cell h.c0 hb, hu.cell h.c1 hb, hu.cell h.c2 hb, hu.cell h.c3 hb⟩
/-- What is read there: the slice's shape, and each copy. -/
theorem CpsAt.read {w : World} {base : Nat} {v : Value} {L : List Rc} (h : CpsAt w base v L) :
    ∃ a cap, v = .slice a L.length cap ∧ (L ≠ [] → ∃ b, a = some ⟨b, 0, none⟩ ∧ v.ownBlock = some b ∧ ∀ i, (h : i < L.length) → RcAt w b (i * 4) L[i]) := by
  have h0 : w.ownsRow base 75 4 v L.length (L.flatMap rcVals) := h
  rcases h0.2 with ⟨rfl, hn⟩ | ⟨g, cap, cur, rfl, hb, hg, hn, hc, hs, ht⟩
  · exact ⟨none, 0, by rw [hn], fun hl => absurd (List.eq_nil_of_length_eq_zero hn) hl⟩
  · refine ⟨_, cap, rfl, fun _ => ⟨g, rfl, rfl, fun i hi => ⟨?_, ?_, ?_, ?_⟩⟩⟩
    · have := World.ownsRow.cells h0 (g := g) rfl (i * 4 + 0) _ (rc4_get L i 0 hi (by decide)); rw [Addr.add_lit] at this; simpa using this
    · have := World.ownsRow.cells h0 (g := g) rfl (i * 4 + 1) _ (rc4_get L i 1 hi (by decide)); rw [Addr.add_lit] at this; simpa using this
    · have := World.ownsRow.cells h0 (g := g) rfl (i * 4 + 2) _ (rc4_get L i 2 hi (by decide)); rw [Addr.add_lit] at this; simpa using this
    · have := World.ownsRow.cells h0 (g := g) rfl (i * 4 + 3) _ (rc4_get L i 3 hi (by decide)); rw [Addr.add_lit] at this; simpa using this
/-- More copies at the end. -/
theorem wpList_append_cps {ops : Array Oper} {rest : List Oper} {o : Oper} {a : Act} {w : World} {Q : Exit → Act → World → Prop} (hgd : o.guard = none) (s x : Operand)
    (ho : o.op = .call { callee := .builtin .append, args := #[s, x], argTypes := #[60, 60] })
    (base : Nat) (v : Value) (L : List Rc) (hs : a.eval s = v) (hown : Hid (CpsAt w base v L))
    (ad : Addr) (cc : Nat) (M : List Rc) (hx : a.eval x = .slice (some ad) M.length cc) (hX : Hid (∀ j u, (M.flatMap rcVals)[j]? = some u → w.cell? (ad.add j) = some u)) (hM : 0 < M.length) (hl : L.length + M.length ≤ 100000) (hbase : base ≤ w.heap.size)
    (h : ∀ g cap w', Hid (CpsAt w' base (.slice (some ⟨g, 0, none⟩) (L.length + M.length) cap) (L ++ M)) → Hid (w.grownBy w' v.ownBlock) → Hid (v.ownBlock = some g ∨ w.heap.size ≤ g) → wpList Try.prog ops Q rest (a.put o.dst (.slice (some ⟨g, 0, none⟩) (L.length + M.length) cap)) w') :
    wpList Try.prog ops Q (o :: rest) a w := by
  obtain ⟨i0, hi0, hz0, hz1, hz2⟩ := info_parts info75
  refine wpList_append_own2 w hgd s x 60 ho base 75 i0 _ 4 40 Try.underlying60 hi0 hz0 hz1 hz2 rfl (by decide) v L.length (L.flatMap rcVals) hs hown.out ad M.length cc (M.flatMap rcVals) hx (rc4_len M) hX.out (fun u hu => rc_one hu) hM (by unfold maxLen; omega) (by omega) hbase ?_
  intro g cap w' h1 h2 h3
  refine h g cap w' ?_ h2 (h3.imp id fun e => Nat.le_of_eq e.symm)
  show w'.ownsRow base 75 4 _ _ _
  rw [List.length_append, List.flatMap_append]
  exact h1

/-! ### The state -/
structure RFoot where
  B : Nat
  C : Option Nat
  F : Option Nat
def RFoot.list (f : RFoot) : List Nat := f.B :: (f.C.toList ++ f.F.toList)
theorem RFoot.mem {f : RFoot} {k : Nat} : k ∈ f.list ↔ k = f.B ∨ f.C = some k ∨ f.F = some k := by
  simp [RFoot.list]
def refCells (n : Nat) (fv : Value) (t : Nat) (cv : Value) : Array Value := #[.int .i64 n, fv, .int .i64 t, cv]
def refObj (n : Nat) (fv : Value) (t : Nat) (cv : Value) : Obj := .cells (refCells n fv t cv) 62 (0, 0)
structure RefAt (w : World) (base : Nat) (f : RFoot) (r : RS) : Prop where
  bc : ∀ g : Nat, f.C = some g → g ≠ f.B ∧ f.F ≠ some g
  bf : ∀ g : Nat, f.F = some g → g ≠ f.B
  ge : ∀ k ∈ f.list, base ≤ k
  ex : ∃ (fv cv : Value), w.heap[f.B]? = some (refObj r.n fv r.time cv) ∧ f.C = cv.ownBlock ∧ CpsAt w base cv r.cps ∧ FatesIn w fv r.fates f.F

theorem RefAt.lt {w : World} {base : Nat} {f : RFoot} {r : RS} (h : RefAt w base f r) : ∀ k ∈ f.list, k < w.heap.size := by
  obtain ⟨fv, cv, h1, h2, h3, h4⟩ := h.ex
  intro k hk
  rcases RFoot.mem.1 hk with rfl | hk | hk
  · exact (Array.getElem?_eq_some_iff.1 h1).1
  · exact h3.lt k (by rw [← h2]; exact hk)
  · exact h4.lt k hk
theorem RefAt.upd {w w' : World} {base : Nat} {f : RFoot} {r : RS} (h : RefAt w base f r) {G : List Nat} (hu : Upd G w w') (hd : ∀ k ∈ f.list, k ∉ G) : RefAt w' base f r := by
  have hb : ∀ k ∈ f.list, w'.heap[k]? = w.heap[k]? := fun k hk => hu.block k (h.lt k hk) (hd k hk)
  obtain ⟨fv, cv, h1, h2, h3, h4⟩ := h.ex
  refine ⟨h.bc, h.bf, h.ge, fv, cv, ?_, h2, ?_, ?_⟩
  · rw [hb _ (RFoot.mem.2 (.inl rfl))]; exact h1
  · exact h3.upd fun k hk => hb k (RFoot.mem.2 (.inr (.inl (by rw [h2]; exact hk))))
  · exact h4.upd hu fun k hk => hd k (RFoot.mem.2 (.inr (.inr hk)))
theorem RefAt.cells {w : World} {base : Nat} {f : RFoot} {r : RS} (h : RefAt w base f r) : ∃ (fv cv : Value),
    w.cell? ⟨f.B, 0, none⟩ = some (.int .i64 r.n) ∧ w.cell? ⟨f.B, 1, none⟩ = some fv ∧ w.cell? ⟨f.B, 2, none⟩ = some (.int .i64 r.time) ∧ w.cell? ⟨f.B, 3, none⟩ = some cv ∧
    (∀ i, w.frozen? ⟨f.B, i, none⟩ = false) ∧ w.heap[f.B]? = some (refObj r.n fv r.time cv) ∧ f.C = cv.ownBlock ∧ CpsAt w base cv r.cps ∧ FatesIn w fv r.fates f.F := by
  obtain ⟨fv, cv, h1, h2, h3, h4⟩ := h.ex
  refine ⟨fv, cv, ?_, ?_, ?_, ?_, ?_, h1, h2, h3, h4⟩
  · rw [cell_of_row w _ 0 _ 62 (0, 0) h1]; rfl
  · rw [cell_of_row w _ 1 _ 62 (0, 0) h1]; rfl
  · rw [cell_of_row w _ 2 _ 62 (0, 0) h1]; rfl
  · rw [cell_of_row w _ 3 _ 62 (0, 0) h1]; rfl
  · intro i; simp [World.frozen?, h1, refObj]
structure RTurn (f f' : RFoot) (w w' : World) : Prop where
  upd : Upd f.list w w'
  sub : ∀ k ∈ f'.list, k ∈ f.list ∨ w.heap.size ≤ k
  B : f'.B = f.B
theorem RTurn.same {f : RFoot} {w w' : World} (h : Upd [] w w') : RTurn f f w w' := ⟨h.mono (by simp), fun _ hk => .inl hk, rfl⟩
theorem RTurn.trans {f g h : RFoot} {a b c : World} (x : RTurn f g a b) (y : RTurn g h b c) : RTurn f h a c :=
  ⟨x.upd.then y.upd x.sub, fun k hk => by
    rcases y.sub k hk with h1 | h1
    · exact x.sub k h1
    · exact .inr (Nat.le_trans x.upd.size h1), y.B.trans x.B⟩
def RPost (base : Nat) (f : RFoot) (r : RS) (w w' : World) : Prop := ∃ f', RefAt w' base f' r ∧ RTurn f f' w w'

/-! ### house -/
set_option maxHeartbeats 400000 in
theorem house_any {w : World} {base : Nat} {f : RFoot} {r : RS} (h : RefAt w base f r) (x : Int) :
    Calls Try.prog 36 #[.pointer (some ⟨f.B, 0, none⟩), .int .i64 x] w fun e w' => e = .returned (.bool (r.has x)) ∧ w = w' := by
  obtain ⟨fv, cv, c0, -⟩ := h.cells
  clear h
  have HH : Hid (r.has x = decide (0 ≤ x ∧ x < r.n)) := rfl
  by_cases h1 : 0 ≤ x
  · go_enter Try.func36, Try.ntmps36
    go_wp2
    go_ret
    exact ⟨ret_bool (by rw [HH.out]; simp [h1]), rfl⟩
  · go_enter Try.func36, Try.ntmps36
    go_wp2
    go_ret
    exact ⟨ret_bool (by rw [HH.out]; simp; omega), rfl⟩
set_option maxHeartbeats 400000 in
theorem house_nil {w : World} (x : Int) : Calls Try.prog 36 #[.pointer none, .int .i64 x] w fun e w' => e = .returned (.bool false) ∧ w = w' := by
  go_enter Try.func36, Try.ntmps36
  go_wp2
  go_ret
  exact ⟨rfl, rfl⟩

/-! ### Waiting, Step -/
set_option maxHeartbeats 400000 in
theorem rwaiting_any {w : World} {base : Nat} {f : RFoot} {r : RS} (h : RefAt w base f r) :
    Calls Try.prog 22 #[.pointer (some ⟨f.B, 0, none⟩)] w fun e w' => e = .returned (.int .i64 r.cps.length) ∧ w = w' := by
  obtain ⟨fv, cv, -, -, -, c3, -, -, -, hc, -⟩ := h.cells
  obtain ⟨a, cap, rfl, -⟩ := hc.read
  clear h
  go_enter Try.func22, Try.ntmps22
  go_wp2
  go_ret
  exact ⟨rfl, rfl⟩
set_option maxHeartbeats 400000 in
theorem rwaiting_nil (w : World) : Calls Try.prog 22 #[.pointer none] w fun e w' => e = .returned (.int .i64 0) ∧ w = w' := by
  go_enter Try.func22, Try.ntmps22
  go_wp2
  go_ret
  exact ⟨rfl, rfl⟩

/-- A store into the header. -/
theorem RefAt.head {w : World} {base : Nat} {f : RFoot} {r r' : RS} (h : RefAt w base f r) (o : Nat) (v : Value) (hf : r'.fates = r.fates) (hc : r'.cps = r.cps)
    (ho : ∀ fv cv, (refCells r.n fv r.time cv).setIfInBounds o v = refCells r'.n fv r'.time cv) : RefAt (w.setCell ⟨f.B, o, none⟩ v) base f r' := by
  obtain ⟨fv, cv, h1, h2, h3, h4⟩ := h.ex
  have hu : Upd [f.B] w (w.setCell ⟨f.B, o, none⟩ v) := (Upd.refl _ _).setCell (.inl (by simp)) v
  refine ⟨h.bc, h.bf, h.ge, fv, cv, ?_, h2, ?_, ?_⟩
  · rw [heap_setCell_self h1, ho]; rfl
  · rw [hc]
    refine h3.upd fun k hk => Below.heap_setCell _ _ _ _ ?_
    exact (h.bc k (by rw [h2]; exact hk)).1
  · rw [hf]
    refine h4.upd hu fun k hk hm => ?_
    exact h.bf k hk (by simpa using hm)
theorem RTurn.setB {f : RFoot} (w : World) (o : Nat) (v : Value) : RTurn f f w (w.setCell ⟨f.B, o, none⟩ v) :=
  ⟨(Upd.refl _ _).setCell (.inl (RFoot.mem.2 (.inl rfl))) v, fun _ hk => .inl hk, rfl⟩

set_option maxHeartbeats 400000 in
theorem rstep_any {w : World} {base : Nat} {f : RFoot} {r : RS} (h : RefAt w base f r) (ht : r.time ≤ 1000000) :
    Calls Try.prog 20 #[.pointer (some ⟨f.B, 0, none⟩)] w fun e w' => e = .returned (.tuple #[]) ∧ RPost base f r.step w w' := by
  obtain ⟨fv, cv, -, -, c2, -, hfz, -⟩ := h.cells
  have HF : Hid (RPost base f r.step w (w.setCell ⟨f.B, 2, none⟩ (.int .i64 ((r.time : Int) + 1)))) :=
    ⟨f, h.head 2 _ rfl rfl (fun fv cv => by simp [refCells, RS.step]), RTurn.setB w 2 _⟩
  clear h
  go_enter Try.func20, Try.ntmps20
  go_wp2
  first | go_end0 | refine bodyPost_ret (results_none rfl _ _ _) rfl ?_
  exact ⟨rfl, HF.out⟩
set_option maxHeartbeats 400000 in
theorem rstep_nil (w : World) : Calls Try.prog 20 #[.pointer none] w fun e w' => e = .returned (.tuple #[]) ∧ w = w' := by
  go_enter Try.func20, Try.ntmps20
  go_wp2
  first | go_end0 | refine bodyPost_ret (results_none rfl _ _ _) rfl ?_
  exact ⟨rfl, rfl⟩

/-! ### Right -/
set_option maxHeartbeats 1000000 in
theorem right_any (w : World) (y : Fa) : Calls Try.prog 29 #[.agg #[.bool y.lost, .int .i64 y.copies, .int .i64 y.delay]] w fun e w' => e = .returned (.bool y.right) ∧ Upd [] w w' := by
  obtain ⟨y0, y1, y2⟩ := y
  have HR : Hid ((⟨y0, y1, y2⟩ : Fa).right = (y0 || decide (1 ≤ y1 ∧ y1 ≤ 9 ∧ 0 ≤ y2 ∧ y2 ≤ 100))) := rfl
  simp only
  cases y0 with
  | true =>
    go_enter Try.func29, Try.ntmps29
    go_wp2
    go_ret
    exact ⟨ret_bool (by rw [HR.out]; simp), (Upd.refl _ _).alloc _⟩
  | false =>
    have H4 : (1 ≤ y1 ∧ y1 ≤ 9 ∧ 0 ≤ y2 ∧ y2 ≤ 100) ∨ y1 < 1 ∨ (1 ≤ y1 ∧ 9 < y1) ∨ (1 ≤ y1 ∧ y1 ≤ 9 ∧ y2 < 0) ∨ (1 ≤ y1 ∧ y1 ≤ 9 ∧ 0 ≤ y2 ∧ 100 < y2) := by omega
    rcases H4 with ⟨z1, z2, z3, z4⟩ | z1 | ⟨z1, z2⟩ | ⟨z1, z2, z3⟩ | ⟨z1, z2, z3, z4⟩
    all_goals
      go_enter Try.func29, Try.ntmps29
      go_wp2
      go_ret
      exact ⟨ret_bool (by rw [HR.out, Bool.false_or]; first | exact (decide_eq_false (by omega)).symm | exact (decide_eq_true (by omega)).symm | exact decide_eq_decide.2 (by omega)), (Upd.refl _ _).alloc _⟩
end Go.Proofs.Ytlmfgdibodpniaa
