/- (*Disk).Write. -/
import Derived.Test.YtcihncgajkogkaaOps3
namespace Go.Proofs.Ytcihncgajkogkaa
open Go.RowKit

section
variable {P : Program} (w : World)
/-- append to a slice of the call's own; the new slice lies where the old one lay, or in the newest block. -/
theorem run_append_own2 (base : Nat) (t ty e : TypeId) (i : TypeInfo) (z : Value) (size bytes : Nat) (ht : P.underlying t = some (.slice e)) (hi : P.info? e = some i) (hz : i.zero = some z)
    (hsize : i.size = size) (hby : i.bytes = bytes) (hzs : z.cells.size = size) (hsz : 0 < size)
    (v : Value) (n : Nat) (xs : List Value) (hown : w.ownsRow base e size v n xs)
    (a : Addr) (m c : Nat) (news : List Value) (hl : news.length = m * size) (hnews : ∀ j u, news[j]? = some u → w.cell? (a.add j) = some u) (h1 : ∀ u ∈ news, u.oneCell' = true)
    (hm0 : 0 < m) (h63 : n + m ≤ maxLen) (hbytes : (n + m) * bytes ≤ 140737488355328) (hbase : base ≤ w.heap.size) :
    ∃ g cap w', (Builtin.append_ #[t, t] ty #[v, .slice (some a) m c]).run P w = .ok (.slice (some ⟨g, 0, none⟩) (n + m) cap) w' ∧ w'.ownsRow base e size (.slice (some ⟨g, 0, none⟩) (n + m) cap) (n + m) (xs ++ news) ∧
      w.grownBy w' v.ownBlock ∧ (v.ownBlock = some g ∨ g = w.heap.size) := by
  obtain ⟨v', w', hr, h2, h3, -⟩ := run_append_own (P := P) w base t ty e i z size bytes ht hi hz hsize hby hzs hsz v n xs hown a m c news hl hnews h1 h63 hbytes hbase
  have key : ∃ g cap, v' = .slice (some ⟨g, 0, none⟩) (n + m) cap ∧ (v.ownBlock = some g ∨ g = w.heap.size) := by
    subst hsize; subst hby
    have hsmall : n + m ≤ 9223372036854775807 := by simp only [maxLen] at h63; omega
    rcases hown.2 with ⟨rfl, rfl⟩ | ⟨g, cap, cur, rfl, hbg, hg, hnc, hcm, hcs, htake⟩
    · have hr2 := run_append_nil (P := P) w t ty e i z ht hi hz a m c news hl hnews hm0 (by omega) (by simp only [Nat.zero_add] at hbytes; omega)
      rw [hr] at hr2
      have hv := (Result.ok.inj hr2).1
      refine ⟨w.heap.size, grownCap w m 0 e, ?_, .inr rfl⟩
      rw [hv, Nat.zero_add]
    · by_cases hroom : n + m ≤ cap
      · have hfit : n * i.size + news.length ≤ cur.size := by rw [hl, hcs, ← Nat.add_mul]; exact Nat.mul_le_mul_right _ hroom
        have hr2 := run_append_room (P := P) w t ty e i ht hi g n cap cur hg a m c news hl hnews h1 hroom hfit
        rw [hr] at hr2
        exact ⟨g, cap, (Result.ok.inj hr2).1, .inl rfl⟩
      · have holds : ∀ j u, xs[j]? = some u → w.cell? ((⟨g, 0, none⟩ : Addr).add j) = some u := hown.cells (g := g) rfl
        have hr2 := run_append_grow (P := P) w t ty e i z ht hi hz ⟨g, 0, none⟩ n cap xs hown.1 holds a m c news hl hnews (by omega) (by omega) (growslice_fits (by omega) hbytes)
        rw [hr] at hr2
        exact ⟨_, _, (Result.ok.inj hr2).1, .inr rfl⟩
  obtain ⟨g, cap, rfl, hb⟩ := key
  exact ⟨g, cap, w', hr, h2, h3, hb⟩

theorem wp_append_own2 {o : Oper} {a : Act} {K : Act → World → Prop} {Q : Exit → Act → World → Prop} (s x : Operand) (t : TypeId)
    (ho : o.op = .call { callee := .builtin .append, args := #[s, x], argTypes := #[t, t] })
    (base : Nat) (e : TypeId) (i : TypeInfo) (z : Value) (size bytes : Nat) (ht : P.underlying t = some (.slice e)) (hi : P.info? e = some i) (hz : i.zero = some z)
    (hsize : i.size = size) (hby : i.bytes = bytes) (hzs : z.cells.size = size) (hsz : 0 < size)
    (v : Value) (n : Nat) (xs : List Value) (hs : a.eval s = v) (hown : w.ownsRow base e size v n xs)
    (ad : Addr) (m c : Nat) (news : List Value) (hx : a.eval x = .slice (some ad) m c) (hl : news.length = m * size) (hnews : ∀ j u, news[j]? = some u → w.cell? (ad.add j) = some u) (h1 : ∀ u ∈ news, u.oneCell' = true)
    (hm0 : 0 < m) (h63 : n + m ≤ maxLen) (hbytes : (n + m) * bytes ≤ 140737488355328) (hbase : base ≤ w.heap.size)
    (h : ∀ g cap w', w'.ownsRow base e size (.slice (some ⟨g, 0, none⟩) (n + m) cap) (n + m) (xs ++ news) → w.grownBy w' v.ownBlock → (v.ownBlock = some g ∨ g = w.heap.size) → K (a.put o.dst (.slice (some ⟨g, 0, none⟩) (n + m) cap)) w') : o.wp P a w K Q := by
  obtain ⟨g, cap, w', hr, h2, h3, h4⟩ := run_append_own2 (P := P) w base t o.type e i z size bytes ht hi hz hsize hby hzs hsz v n xs hown ad m c news hl hnews h1 hm0 h63 hbytes hbase
  unfold Oper.wp execOp
  simp only [ho, resolve, invoke, builtin, Sem.run_bind, Sem.run_pure, Result.andThen_ok, List.map_toArray, List.map_cons, List.map_nil, hs, hx, hr]
  exact h g cap w' h2 h3 h4

/-- As one step of a region that draws its order. -/
theorem step_append_own {ops : Array Oper} {o : Oper} {a : Act} {K : Act → World → Prop} {Q : Exit → Act → World → Prop} {E : Prop} (hgd : o.guard = none) (s x : Operand) (t : TypeId)
    (ho : o.op = .call { callee := .builtin .append, args := #[s, x], argTypes := #[t, t] })
    (base : Nat) (e : TypeId) (i : TypeInfo) (z : Value) (size bytes : Nat) (ht : P.underlying t = some (.slice e)) (hi : P.info? e = some i) (hz : i.zero = some z)
    (hsize : i.size = size) (hby : i.bytes = bytes) (hzs : z.cells.size = size) (hsz : 0 < size)
    (v : Value) (n : Nat) (xs : List Value) (hs : a.eval s = v) (hown : w.ownsRow base e size v n xs)
    (ad : Addr) (m c : Nat) (news : List Value) (hx : a.eval x = .slice (some ad) m c) (hl : news.length = m * size) (hnews : ∀ j u, news[j]? = some u → w.cell? (ad.add j) = some u) (h1 : ∀ u ∈ news, u.oneCell' = true)
    (hm0 : 0 < m) (h63 : n + m ≤ maxLen) (hbytes : (n + m) * bytes ≤ 140737488355328) (hbase : base ≤ w.heap.size)
    (h : ∀ g cap w', w'.ownsRow base e size (.slice (some ⟨g, 0, none⟩) (n + m) cap) (n + m) (xs ++ news) → w.grownBy w' v.ownBlock → (v.ownBlock = some g ∨ g = w.heap.size) → K (a.put o.dst (.slice (some ⟨g, 0, none⟩) (n + m) cap)) w') :
    if Region.wanted o (yielded ops a.tmps) = true then Oper.wp P o a w K Q else E := by
  have hw : Region.wanted o (yielded ops a.tmps) = true := by simp [Region.wanted, hgd]
  rw [if_pos hw]
  exact wp_append_own2 (P := P) w s x t ho base e i z size bytes ht hi hz hsize hby hzs hsz v n xs hs hown ad m c news hx hl hnews h1 hm0 h63 hbytes hbase h

/-- As one operation of a list. -/
theorem wpList_append_own2 {ops : Array Oper} {rest : List Oper} {o : Oper} {a : Act} {Q : Exit → Act → World → Prop} (hgd : o.guard = none) (s x : Operand) (t : TypeId)
    (ho : o.op = .call { callee := .builtin .append, args := #[s, x], argTypes := #[t, t] })
    (base : Nat) (e : TypeId) (i : TypeInfo) (z : Value) (size bytes : Nat) (ht : P.underlying t = some (.slice e)) (hi : P.info? e = some i) (hz : i.zero = some z)
    (hsize : i.size = size) (hby : i.bytes = bytes) (hzs : z.cells.size = size) (hsz : 0 < size)
    (v : Value) (n : Nat) (xs : List Value) (hs : a.eval s = v) (hown : w.ownsRow base e size v n xs)
    (ad : Addr) (m c : Nat) (news : List Value) (hx : a.eval x = .slice (some ad) m c) (hl : news.length = m * size) (hnews : ∀ j u, news[j]? = some u → w.cell? (ad.add j) = some u) (h1 : ∀ u ∈ news, u.oneCell' = true)
    (hm0 : 0 < m) (h63 : n + m ≤ maxLen) (hbytes : (n + m) * bytes ≤ 140737488355328) (hbase : base ≤ w.heap.size)
    (h : ∀ g cap w', w'.ownsRow base e size (.slice (some ⟨g, 0, none⟩) (n + m) cap) (n + m) (xs ++ news) → w.grownBy w' v.ownBlock → (v.ownBlock = some g ∨ g = w.heap.size) → wpList P ops Q rest (a.put o.dst (.slice (some ⟨g, 0, none⟩) (n + m) cap)) w') :
    wpList P ops Q (o :: rest) a w := by
  refine wpList_plain hgd fun K hK => ?_
  exact wp_append_own2 (P := P) w s x t ho base e i z size bytes ht hi hz hsize hby hzs hsz v n xs hs hown ad m c news hx hl hnews h1 hm0 h63 hbytes hbase fun g cap w' x1 x2 x3 => hK _ _ (h g cap w' x1 x2 x3)
end

theorem info60 : (Try.prog.info? 60).map (fun i => (i.zero, i.size, i.bytes)) = some (some (.agg #[.int .i64 0, .int .i64 0, .string ByteArray.empty]), 3, 32) := by kernel_rfl

def DS.push (s : DS) (p : Nat × ByteArray) : DS := { s with q := s.q ++ [p] }
def DS.write (s : DS) (sec : Int) (t : ByteArray) : DS × Int :=
  if s.atE sec ≠ 0 then (s, s.atE sec) else if t.size ≠ 32 then (s, 1) else (s.push (sec.toNat, t)).count

/-- The queue has grown by one. -/
theorem push_after {w w1 : World} {base : Nat} {f : Foot} {s : DS} (h : DiskAt w base f s) (hbase : base ≤ w.heap.size) (p : Nat × ByteArray) (hp : p.1 < s.n ∧ p.2.size = 32) (qv : Value) (g cap : Nat) (hqv : w.cell? ⟨f.B, 1, none⟩ = some qv)
    (hg : w.grownBy w1 qv.ownBlock) (hown : w1.ownsRow base 60 3 (.slice (some ⟨g, 0, none⟩) (s.q.length + 1) cap) (s.q.length + 1) (s.q.flatMap pendVals ++ pendVals p)) (hnew : qv.ownBlock = some g ∨ g = w.heap.size) :
    ∃ f', DiskAt (w1.setCell ⟨f.B, 1, none⟩ (.slice (some ⟨g, 0, none⟩) (s.q.length + 1) cap)) base f' (s.push p) ∧ Turn f f' w (w1.setCell ⟨f.B, 1, none⟩ (.slice (some ⟨g, 0, none⟩) (s.q.length + 1) cap)) := by
  obtain ⟨qv', av, c0, c1, c2, c3, hfz, h1, h2, h3, h4, h0, h5⟩ := h.cells
  obtain rfl : qv' = qv := by rw [c1] at hqv; simpa using hqv
  have hBS := Foot.two h.nodup
  have hlt := h.lt
  have hq : ∀ k, qv'.ownBlock = some k → f.B ≠ k ∧ f.S ≠ k ∧ f.A ≠ some k := by
    intro k hk
    have e : f.Q = some k := by rw [h4, hk]
    have a1 := Foot.q_ne h.nodup e
    refine ⟨a1.1, a1.2, fun eA => ?_⟩
    exact (Foot.a_ne h.nodup eA).2.2 e
  have old : ∀ k, k < w.heap.size → qv'.ownBlock ≠ some k → w1.heap[k]? = w.heap[k]? := fun k hk hn => hg.block k hk (fun e => hn e.symm)
  have oB : qv'.ownBlock ≠ some f.B := fun e => (hq _ e).1 rfl
  have oS : qv'.ownBlock ≠ some f.S := fun e => (hq _ e).2.1 rfl
  have hgB : f.B ≠ g := by
    rcases hnew with e | e
    · exact (hq g e).1
    · have := h.B_lt; omega
  have hgS : f.S ≠ g := by
    rcases hnew with e | e
    · exact (hq g e).2.1
    · have := hlt f.S (by simp [Foot.list]); omega
  have hgA : f.A ≠ some g := by
    rcases hnew with e | e
    · exact (hq g e).2.2
    · intro eA
      have := hlt g (by simp [Foot.list, eA]); omega
  have hsub : ∀ k ∈ (⟨f.B, f.S, some g, f.A⟩ : Foot).list, k ∈ f.list ∨ w.heap.size ≤ k := by
    intro k hk
    simp only [Foot.list, Option.toList_some, List.mem_cons, List.mem_append, List.not_mem_nil, or_false] at hk
    rcases hk with hk | hk | hk | hk
    · exact .inl (by simp [Foot.list, hk])
    · exact .inl (by simp [Foot.list, hk])
    · subst hk
      rcases hnew with e | e
      · left; simp only [Foot.list, List.mem_cons, List.mem_append]; right; right; left; rw [h4, e]; simp
      · right; omega
    · left; simp only [Foot.list, List.mem_cons, List.mem_append]; right; right; right; exact hk
  refine ⟨⟨f.B, f.S, some g, f.A⟩, ⟨⟨h.wf.n0, h.wf.n1, h.wf.len, ?_, h.wf.a⟩, ?_, ?_, .slice (some ⟨g, 0, none⟩) (s.q.length + 1) cap, av, ?_, ?_, ?_, rfl, by simp [DS.push], ?_⟩, ⟨?_, hsub, rfl⟩⟩
  · intro x hx
    simp only [DS.push, List.mem_append, List.mem_singleton] at hx
    rcases hx with hx | rfl
    · exact h.wf.q x hx
    · exact hp
  · have hn := h.nodup
    simp only [Foot.list, Option.toList_some, List.nodup_cons, List.mem_cons, List.mem_append, List.not_mem_nil, or_false, List.cons_append, List.nil_append, not_or] at hn ⊢
    refine ⟨⟨hBS, hgB, fun e => hn.1.2.2 e⟩, ⟨hgS, fun e => hn.2.1.2 e⟩, ?_, ?_⟩
    · cases hA : f.A with
      | none => simp
      | some A => simp; intro e; exact hgA (by rw [hA, e])
    · cases f.A <;> simp
  · intro k hk
    rcases hsub k hk with h1 | h1
    · exact h.ge k h1
    · omega
  · exact set1 (by rw [old f.B h.B_lt oB]; exact h1)
  · rw [Below.heap_setCell _ _ _ _ hBS.symm, old f.S (hlt _ (by simp [Foot.list])) oS]; exact h2
  · have e1 : (s.push p).q.length = s.q.length + 1 := by simp [DS.push]
    have e2 : (s.push p).q.flatMap pendVals = s.q.flatMap pendVals ++ pendVals p := by simp [DS.push]
    rw [e1, e2]
    refine ownsRow_upd hown fun k hk => ?_
    obtain rfl : g = k := by simpa [Value.ownBlock] using hk
    rw [Below.heap_setCell _ _ _ _ hgB.symm]
  · show (match s.armed with
     | none => av = .pointer none ∧ f.A = none
     | some a => ∃ A, av = .pointer (some ⟨A, 0, none⟩) ∧ f.A = some A ∧ _)
    cases ha : s.armed with
    | none => rw [ha] at h5; exact h5
    | some a =>
      rw [ha] at h5
      obtain ⟨A, h6, hA, h7⟩ := h5
      have hne := Foot.a_ne h.nodup hA
      refine ⟨A, h6, hA, ?_⟩
      rw [Below.heap_setCell _ _ _ _ hne.1.symm, old A (Array.getElem?_eq_some_iff.1 h7).1 (fun e => (hq A e).2.2 hA)]; exact h7
  · have hu : Upd f.list w w1 := (Upd.refl _ _).grown hg (fun k hk => .inl (by simp only [Foot.list, List.mem_cons, List.mem_append]; right; right; left; rw [h4, hk]; simp))
    exact hu.setCell (.inl (by simp [Foot.list])) _

theorem news3 (w : World) (A : Obj) (l : List Value) (T : TypeId) : ∀ j u, l[j]? = some u → (((w.alloc A).alloc (.cells l.toArray T)).drew).cell? ((⟨w.heap.size + 1, 0, none⟩ : Addr).add j) = some u := by
  intro j u h
  have hadd : (⟨w.heap.size + 1, 0, none⟩ : Addr).add j = ⟨w.heap.size + 1, j, none⟩ := by unfold Addr.add; split <;> simp_all
  have hz : (w.alloc A).heap.size = w.heap.size + 1 := by simp
  have : ((w.alloc A).alloc (.cells l.toArray T)).cell? ⟨w.heap.size + 1, j, none⟩ = some u := by
    rw [← hz, World.cell?_alloc_new]
    simpa using h
  rw [hadd]
  exact this

theorem step_push {ops : Array Oper} {o : Oper} {a : Act} {K : Act → World → Prop} {Q : Exit → Act → World → Prop} {E : Prop} (hgd : o.guard = none) (x y : Operand)
    (ho : o.op = .call { callee := .builtin .append, args := #[x, y], argTypes := #[50, 50] })
    {w1 : World} {base : Nat} {f : Foot} {s : DS} (h : Hid (DiskAt w1 base f s)) (hbase : base ≤ w1.heap.size) (hql : s.q.length < 1000000) (p : Nat × ByteArray) (hp : Hid (p.1 < s.n ∧ p.2.size = 32))
    (qv : Value) (hqv : w1.cell? ⟨f.B, 1, none⟩ = some qv) (H3 : Hid (w1.ownsRow base 60 3 qv s.q.length (s.q.flatMap pendVals))) (A : Obj)
    (hs : a.eval x = qv) (hx : a.eval y = .slice (some ⟨w1.heap.size + 1, 0, none⟩) 1 1)
    (hK : ∀ g cap w', w'.cell? ⟨f.B, 1, none⟩ = some qv → (∀ i, w'.frozen? ⟨f.B, i, none⟩ = false) → f.B < w'.heap.size →
      Hid (∃ f', DiskAt (w'.setCell ⟨f.B, 1, none⟩ (.slice (some ⟨g, 0, none⟩) (s.q.length + 1) cap)) base f' (s.push p) ∧ Turn f f' w1 (w'.setCell ⟨f.B, 1, none⟩ (.slice (some ⟨g, 0, none⟩) (s.q.length + 1) cap))) →
      K (a.put o.dst (.slice (some ⟨g, 0, none⟩) (s.q.length + 1) cap)) w') :
    if Region.wanted o (yielded ops a.tmps) = true then Oper.wp Try.prog o a (((w1.alloc A).alloc (.cells (pendVals p).toArray 60)).drew) K Q else E := by
  obtain ⟨i0, hi, hz0, hz1, hz2⟩ := info_parts info60
  have hu : Upd [] w1 (((w1.alloc A).alloc (.cells (pendVals p).toArray 60)).drew) := (((Upd.refl [] w1).alloc _).alloc _).drew
  have hd := h.out.upd hu (by simp)
  have hc := hu.cell hqv (by simp)
  refine step_append_own _ hgd x y 50 ho base 60 i0 _ 3 32 Try.underlying50 hi hz0 hz1 hz2 rfl (by decide) qv s.q.length (s.q.flatMap pendVals) hs ((H3.out.alloc _).alloc _).drew ⟨w1.heap.size + 1, 0, none⟩ 1 1 (pendVals p) hx rfl (news3 w1 A (pendVals p) 60) ?_ (by decide) (by unfold maxLen; omega) (by omega) (by have := hu.size; omega) ?_
  · intro u hu
    simp only [pendVals, List.mem_cons, List.not_mem_nil, or_false] at hu
    rcases hu with rfl | rfl | rfl <;> rfl
  · intro g cap w' hown hgr hnew
    obtain ⟨qv', av, c0, c1, c2, c3, hfz, -, -, -, h4, -⟩ := hd.cells
    obtain rfl : qv' = qv := by rw [c1] at hc; simpa using hc
    have hne : some f.B ≠ qv'.ownBlock := fun e => (Foot.q_ne h.out.nodup (g := f.B) (by rw [h4, e])).1 rfl
    refine hK g cap w' (hgr.cell c1 hne) (fun i => ?_) (Nat.lt_of_lt_of_le hd.B_lt hgr.size) ?_
    · rw [World.frozen?_of_block (hgr.block f.B hd.B_lt hne)]; exact hfz i
    · obtain ⟨f', x1, x2⟩ := push_after hd (by have := hu.size; omega) p hp.out qv' g cap c1 hgr hown hnew
      exact ⟨f', x1, (Turn.same hu).trans x2⟩

set_option maxHeartbeats 1000000 in
theorem write_good {w : World} {base : Nat} {f : Foot} {s : DS} (h : DiskAt w base f s) (hbase : base ≤ w.heap.size) (hql : s.q.length < 1000000) (ho : s.off = false) (sec : Nat) (hsec : sec < s.n) (t : ByteArray) (ht : t.size = 32) :
    Calls Try.prog 14 #[.pointer (some ⟨f.B, 0, none⟩), .int .i64 sec, .string t] w fun e w' => e = .returned (.int .i64 (s.push (sec, t)).count.2) ∧ ∃ f', DiskAt w' base f' (s.push (sec, t)).count.1 ∧ Turn f f' w w' := by
  obtain ⟨i0, hi, hz0, hz1, hz2⟩ := info_parts info60
  have HA := Lib.hid (at_ok h sec ho hsec)
  have HD := Lib.hid h
  have HT := Lib.hid ht
  have hts : ((t.size : Int) != 32) = false := by rw [ht]; rfl
  clear h ht
  go_enter Try.func14, Try.ntmps14
  go_wp2_with fail
  refine HA.out.mono ?_
  rintro e w1 ⟨rfl, hu1⟩
  have hd1 := HD.out.upd hu1 (by simp)
  have HD1 := Lib.hid hd1
  obtain ⟨qv, av, c0, c1, c2, c3, hfz, h1, h2, h3, h4, h0, h5⟩ := hd1.cells
  have hBl := hd1.B_lt
  have hz1' := hu1.size
  have H3 := Lib.hid h3
  clear h1 h2 h3 h4 h0 h5 c0 c2 c3 hd1
  have HU1 := Lib.hid hu1
  clear hu1
  go_wp2_with fail
  have HP : Hid ((sec, t).1 < s.n ∧ (sec, t).2.size = 32) := ⟨hsec, HT.out⟩
  have hb1 : base ≤ w1.heap.size := by omega
  go_region_law (refine step_push rfl (.tmp 25) (.tmp 29) rfl HD1 hb1 hql (sec, t) HP qv c1 H3 _ (by simp [Act.eval, Act.put]) (by simp [Act.eval, Act.put]) ?_; intro g cap w2 c1' hfz' hBl' HF)
  all_goals
    have HC : Hid (Calls Try.prog 22 #[.pointer (some ⟨f.B, 0, none⟩)] (w2.setCell ⟨f.B, 1, none⟩ (.slice (some ⟨g, 0, none⟩) (s.q.length + 1) cap)) fun e w' => e = .returned (.int .i64 (s.push (sec, t)).count.2) ∧ ∃ f', DiskAt w' base f' (s.push (sec, t)).count.1 ∧ Turn f f' w w') := by
      obtain ⟨f', x1, x2⟩ := HF.out
      have hc := count_any x1 (by simp [DS.push]; omega)
      rw [x2.B] at hc
      refine hc.mono fun e w' hh => ⟨hh.1, ?_⟩
      obtain ⟨f2, y1, y2⟩ := hh.2
      exact ⟨f2, y1, ((Turn.same HU1.out).trans x2).trans y2⟩
    clear HF c1' hfz'
    go_wp2_with fail
    refine HC.out.mono ?_
    rintro e w' ⟨rfl, hd⟩
    have HFin := Lib.hid hd
    clear hd
    go_wp2
    go_ret
    exact ⟨rfl, HFin.out⟩

/-! ### The other ways -/
set_option maxHeartbeats 400000 in
theorem write_at {w : World} {B : Nat} (sec e0 : Int) (t : ByteArray) (he : e0 ≠ 0) (HA : Hid (Calls Try.prog 24 #[.pointer (some ⟨B, 0, none⟩), .int .i64 sec] w fun e w' => e = .returned (.tuple #[.agg #[.int .i64 0, .int .i64 0], .int .i64 e0]) ∧ Upd [] w w')) :
    Calls Try.prog 14 #[.pointer (some ⟨B, 0, none⟩), .int .i64 sec, .string t] w fun e w' => e = .returned (.int .i64 e0) ∧ Upd [] w w' := by
  have hb : (e0 != 0) = true := by simpa using he
  clear he
  go_enter Try.func14, Try.ntmps14
  go_wp2_with fail
  refine HA.out.mono ?_
  rintro e w1 ⟨rfl, hu1⟩
  go_wp2
  go_ret
  exact ⟨rfl, hu1.alloc _⟩

set_option maxHeartbeats 400000 in
theorem write_len {w : World} {base : Nat} {f : Foot} {s : DS} (h : DiskAt w base f s) (ho : s.off = false) (sec : Nat) (hsec : sec < s.n) (t : ByteArray) (ht : ¬ t.size = 32) (hm : t.size ≤ maxLen) :
    Calls Try.prog 14 #[.pointer (some ⟨f.B, 0, none⟩), .int .i64 sec, .string t] w fun e w' => e = .returned (.int .i64 1) ∧ Upd [] w w' := by
  have HA := Lib.hid (at_ok h sec ho hsec)
  have hb : ((t.size : Int) != 32) = true := by rw [bne_iff_ne]; omega
  unfold maxLen at hm
  clear h ht
  go_enter Try.func14, Try.ntmps14
  go_wp2_with fail
  refine HA.out.mono ?_
  rintro e w1 ⟨rfl, hu1⟩
  go_wp2
  go_ret
  exact ⟨rfl, hu1.alloc _⟩

theorem write_any {w : World} {base : Nat} {f : Foot} {s : DS} (h : DiskAt w base f s) (hbase : base ≤ w.heap.size) (hql : s.q.length < 1000000) (sec : Int) (t : ByteArray) (hm : t.size ≤ maxLen) :
    Calls Try.prog 14 #[.pointer (some ⟨f.B, 0, none⟩), .int .i64 sec, .string t] w fun e w' => e = .returned (.int .i64 (s.write sec t).2) ∧ ∃ f', DiskAt w' base f' (s.write sec t).1 ∧ Turn f f' w w' := by
  have fin : ∀ e0, s.write sec t = (s, e0) → (Calls Try.prog 14 #[.pointer (some ⟨f.B, 0, none⟩), .int .i64 sec, .string t] w fun e w' => e = .returned (.int .i64 e0) ∧ Upd [] w w') →
      Calls Try.prog 14 #[.pointer (some ⟨f.B, 0, none⟩), .int .i64 sec, .string t] w fun e w' => e = .returned (.int .i64 (s.write sec t).2) ∧ ∃ f', DiskAt w' base f' (s.write sec t).1 ∧ Turn f f' w w' := by
    intro e0 he hc
    rw [he]
    exact hc.mono fun e w' hh => ⟨hh.1, f, h.upd hh.2 (by simp), .same hh.2⟩
  by_cases ho : s.off = true
  · have ha : s.atE sec = 21 := by unfold DS.atE; rw [if_pos ho]
    refine fin 21 ?_ (write_at sec 21 t (by decide) (at_off h sec ho))
    unfold DS.write; rw [ha]; simp
  have ho' : s.off = false := by simpa using ho
  by_cases hs : sec < 0 ∨ (s.n : Int) ≤ sec
  · have ha : s.atE sec = 1 := by unfold DS.atE; rw [if_neg ho, if_pos hs]
    refine fin 1 ?_ (write_at sec 1 t (by decide) (at_bad h sec ho' hs))
    unfold DS.write; rw [ha]; simp
  have ha : s.atE sec = 0 := by unfold DS.atE; rw [if_neg ho, if_neg hs]
  obtain ⟨k, rfl⟩ := Int.eq_ofNat_of_zero_le (show 0 ≤ sec by omega)
  by_cases ht : t.size = 32
  · have hw : s.write k t = (s.push (k, t)).count := by unfold DS.write; rw [if_neg (by simp [ha]), if_neg (by simp [ht])]; simp
    rw [hw]
    exact write_good h hbase hql ho' k (by omega) t ht
  · refine fin 1 ?_ (write_len h ho' k (by omega) t ht hm)
    unfold DS.write; rw [if_neg (by simp [ha]), if_pos (by simp [ht])]

end Go.Proofs.Ytcihncgajkogkaa
