/- A slice that lies anywhere in a row of the program's own; append and copy at it. -/
import Derived.Test.YtlmfgdibodpniaaFrame
namespace Go.Proofs.Ytlmfgdibodpniaa
open Go.RowKit

/-- n elements of 'size' cells, from some place of a row on; the capacity lies in the row. -/
def Seg (w : World) (base : Nat) (e : TypeId) (size : Nat) (v : Value) (n : Nat) (xs : List Value) : Prop :=
  xs.length = n * size ∧
  ((v = .slice none 0 0 ∧ n = 0) ∨
   ∃ g o cap cur, v = .slice (some ⟨g, o, none⟩) n cap ∧ base ≤ g ∧ w.heap[g]? = some (.cells cur e (0, 0)) ∧ n ≤ cap ∧ cap ≤ maxLen ∧ o + cap * size ≤ cur.size ∧ 0 < cur.size ∧ (cur.toList.drop o).take (n * size) = xs)

theorem Seg.nil (w : World) (base : Nat) (e : TypeId) (size : Nat) : Seg w base e size (.slice none 0 0) 0 [] := ⟨by simp, .inl ⟨rfl, rfl⟩⟩
theorem Seg.form {w : World} {base : Nat} {e : TypeId} {size n : Nat} {v : Value} {xs : List Value} (h : Seg w base e size v n xs) : ∃ a cap, v = .slice a n cap ∧ n ≤ cap ∧ cap ≤ maxLen ∧ (a = none → n = 0 ∧ cap = 0) := by
  rcases h.2 with ⟨rfl, rfl⟩ | ⟨g, o, cap, cur, rfl, _, _, h1, h2, _⟩
  · exact ⟨none, 0, rfl, Nat.le_refl _, Nat.zero_le _, fun _ => ⟨rfl, rfl⟩⟩
  · exact ⟨_, cap, rfl, h1, h2, fun h => by cases h⟩
theorem Seg.upd {w w' : World} {base : Nat} {e : TypeId} {size n : Nat} {v : Value} {xs : List Value} (h : Seg w base e size v n xs) (hb : ∀ k, v.ownBlock = some k → w'.heap[k]? = w.heap[k]?) : Seg w' base e size v n xs := by
  obtain ⟨h1, h2⟩ := h
  refine ⟨h1, ?_⟩
  rcases h2 with h2 | ⟨g, o, cap, cur, rfl, hg, hh, r⟩
  · exact .inl h2
  · exact .inr ⟨g, o, cap, cur, rfl, hg, by rw [hb g rfl]; exact hh, r⟩
theorem Seg.lt {w : World} {base : Nat} {e : TypeId} {size n : Nat} {v : Value} {xs : List Value} (h : Seg w base e size v n xs) : ∀ k, v.ownBlock = some k → base ≤ k ∧ k < w.heap.size := by
  intro k hk
  rcases h.2 with ⟨rfl, _⟩ | ⟨g, o, cap, cur, rfl, hg, hh, _⟩
  · cases hk
  · obtain rfl : g = k := by simpa [Value.ownBlock] using hk
    exact ⟨hg, (Array.getElem?_eq_some_iff.1 hh).1⟩
theorem Seg.cells {w : World} {base : Nat} {e : TypeId} {size n : Nat} {v : Value} {xs : List Value} {g o cap : Nat} (h : Seg w base e size v n xs) (hv : v = .slice (some ⟨g, o, none⟩) n cap) :
    ∀ j u, xs[j]? = some u → w.cell? ⟨g, o + j, none⟩ = some u := by
  intro j u hj
  rcases h.2 with ⟨rfl, _⟩ | ⟨g', o', cap', cur, rfl, hg, hh, _, _, _, _, hx⟩
  · cases hv
  · injection hv with h1 h2 h3
    injection h1 with h1
    injection h1 with ha hb hc
    subst ha; subst hb
    rw [cell_of_row w _ (o' + j) cur e (0, 0) hh, ← hj, ← hx, List.getElem?_take]
    have hjl : j < n * size := by
      rw [← h.1]; exact (List.getElem?_eq_some_iff.1 hj).1
    rw [if_pos hjl, List.getElem?_drop]
    simp
theorem Seg.mono {w : World} {base base' : Nat} {e : TypeId} {size n : Nat} {v : Value} {xs : List Value} (h : Seg w base e size v n xs) (hb : base' ≤ base) : Seg w base' e size v n xs := by
  obtain ⟨h1, h2⟩ := h
  refine ⟨h1, ?_⟩
  rcases h2 with h2 | ⟨g, o, cap, cur, rfl, hg, r⟩
  · exact .inl h2
  · exact .inr ⟨g, o, cap, cur, rfl, Nat.le_trans hb hg, r⟩
theorem Seg.ofOwns {w : World} {base : Nat} {e : TypeId} {size n : Nat} {v : Value} {xs : List Value} (h : w.ownsRow base e size v n xs) (hp : 0 < n) (hs : 0 < size) : Seg w base e size v n xs := by
  obtain ⟨h1, h2⟩ := h
  refine ⟨h1, ?_⟩
  rcases h2 with h2 | ⟨g, cap, cur, rfl, hg, hh, a, b, c, d⟩
  · exact .inl h2
  · refine .inr ⟨g, 0, cap, cur, rfl, hg, hh, a, b, by omega, ?_, by simpa using d⟩
    rw [c]; exact Nat.mul_pos (by omega) hs

section
variable {P : Program} (w : World)
/-- There is room: in place. -/
theorem run_append_room_at (t ty e : TypeId) (i : TypeInfo) (ht : P.underlying t = some (.slice e)) (hi : P.info? e = some i)
    (g o sLen sCap : Nat) (cur : Array Value) (hg : w.heap[g]? = some (.cells cur e (0, 0)))
    (a : Addr) (m c : Nat) (news : List Value) (hl : news.length = m * i.size) (hnews : ∀ j u, news[j]? = some u → w.cell? (a.add j) = some u) (h1 : ∀ u ∈ news, u.oneCell' = true)
    (hroom : sLen + m ≤ sCap) (hfit : o + sLen * i.size + news.length ≤ cur.size) :
    (Builtin.append_ #[t, t] ty #[.slice (some ⟨g, o, none⟩) sLen sCap, .slice (some a) m c]).run P w =
      .ok (.slice (some ⟨g, o, none⟩) (sLen + m) sCap) (w.setRow g (splice cur.toList (o + sLen * i.size) news).toArray) := by
  have hf := run_firstCells_some (P := P) w i.size m a m c news hl hnews
  have hst := run_storeCells_at P g (o + sLen * i.size) e news 0 cur w hg (by simpa using hfit) h1
  simp only [Nat.add_zero] at hst
  simp [Builtin.append_, run_underlying ht, sizeOf, typeInfo, hi, Builtin.lenOf, hroom, hf, Addr.add_lit, hst, splice]

theorem drop_take_splice (l : List Value) (o n : Nat) (news : List Value) (h : o + n + news.length ≤ l.length) :
    ((splice l (o + n) news).drop o).take (n + news.length) = (l.drop o).take n ++ news := by
  unfold splice
  apply List.ext_getElem?
  intro j
  simp only [List.getElem?_take, List.getElem?_drop, List.getElem?_append, List.length_take, List.length_drop]
  by_cases hj : j < n
  · have e1 : min (o + n) l.length = o + n := by omega
    have e2 : min n (l.length - o) = n := by omega
    rw [if_pos (by omega), e1, e2, if_pos (by omega), if_pos (by omega), if_pos hj, if_pos hj]
  · have e1 : min (o + n) l.length = o + n := by omega
    have e2 : min n (l.length - o) = n := by omega
    rw [e1, e2, if_neg (show ¬ j < n from hj)]
    by_cases hj2 : j < n + news.length
    · rw [if_pos hj2, if_neg (by omega), if_pos (by omega)]
      congr 1; omega
    · rw [if_neg hj2]
      rw [List.getElem?_eq_none (by omega)]

/-- append, wherever the slice lies. -/
theorem run_append_seg (base : Nat) (t ty e : TypeId) (i : TypeInfo) (z : Value) (size bytes : Nat) (ht : P.underlying t = some (.slice e)) (hi : P.info? e = some i) (hz : i.zero = some z)
    (hsize : i.size = size) (hby : i.bytes = bytes) (hzs : z.cells.size = size) (hsz : 0 < size)
    (v : Value) (n : Nat) (xs : List Value) (hown : Seg w base e size v n xs)
    (a : Addr) (m c : Nat) (news : List Value) (hl : news.length = m * size) (hnews : ∀ j u, news[j]? = some u → w.cell? (a.add j) = some u) (h1 : ∀ u ∈ news, u.oneCell' = true)
    (hm0 : 0 < m) (h63 : n + m ≤ 1000000) (hbytes : bytes ≤ 1000) (hbase : base ≤ w.heap.size) :
    ∃ v' w', (Builtin.append_ #[t, t] ty #[v, .slice (some a) m c]).run P w = .ok v' w' ∧ Seg w' base e size v' (n + m) (xs ++ news) ∧
      w.grownBy w' v.ownBlock ∧ (v.ownBlock = v'.ownBlock ∨ v'.ownBlock = some w.heap.size) := by
  subst hsize; subst hby
  have hbig : (n + m) * i.bytes ≤ 140737488355328 := Nat.le_trans (Nat.mul_le_mul h63 hbytes) (by decide)
  have hx := hown.1
  rcases hown.2 with ⟨rfl, rfl⟩ | ⟨g, o, cap, cur, rfl, hbg, hg, hnc, hcm, hfit, hpos, htake⟩
  · have hr2 := run_append_nil (P := P) w t ty e i z ht hi hz a m c news hl hnews hm0 (by omega) (by simp only [Nat.zero_add] at hbig; omega)
    obtain rfl : xs = [] := List.eq_nil_of_length_eq_zero (by rw [hx]; simp)
    refine ⟨_, _, hr2, ?_, ?_, .inr rfl⟩
    · refine ⟨by simp [hl], .inr ⟨w.heap.size, 0, grownCap w m 0 e, _, by rw [Nat.zero_add], hbase, heap_alloc_new w.drew _, ?_, ?_, ?_, ?_, ?_⟩⟩
      · rw [Nat.zero_add]; exact grownCap_ge w m 0 e
      · have := grownCap_le_maxLen w m 0 e (by unfold maxLen; omega)
        exact this
      · simp [size_zeroCells, hl, hzs]
        have := grownCap_ge w m 0 e
        rw [← Nat.add_mul]
        exact Nat.mul_le_mul_right _ (by omega)
      · have : 0 < m * i.size := Nat.mul_pos hm0 hsz
        simp [hl]; omega
      · simp [hl]
    · exact ⟨rfl, rfl, rfl, by simp, fun k hk _ => by rw [Below.heap_alloc _ _ _ (by simpa using hk)]; rfl⟩
  · by_cases hroom : n + m ≤ cap
    · have hf2 : o + n * i.size + news.length ≤ cur.size := by
        rw [hl, Nat.add_assoc, ← Nat.add_mul]
        exact Nat.le_trans (Nat.add_le_add_left (Nat.mul_le_mul_right _ hroom) _) hfit
      have hr2 := run_append_room_at (P := P) w t ty e i ht hi g o n cap cur hg a m c news hl hnews h1 hroom hf2
      refine ⟨_, _, hr2, ?_, ?_, .inl rfl⟩
      · refine ⟨by rw [List.length_append, hx, hl, ← Nat.add_mul], .inr ⟨g, o, cap, _, rfl, hbg, setRow_heap w g cur _ e (0, 0) hg, hroom, hcm, ?_, ?_, ?_⟩⟩
        · rw [List.size_toArray, length_splice _ _ _ (by simpa using hf2)]; simpa using hfit
        · rw [List.size_toArray, length_splice _ _ _ (by simpa using hf2)]; simpa using hpos
        · rw [Nat.add_mul, ← hl]
          show List.take (n * i.size + news.length) (List.drop o (splice cur.toList (o + n * i.size) news)) = _
          rw [drop_take_splice _ _ _ _ (by simpa using hf2), htake]
      · refine ⟨rfl, rfl, rfl, by simp [World.setRow], fun k hk hn => setRow_other w g k _ (fun e => hn (by rw [e]; rfl))⟩
    · have hr2 := run_append_grow (P := P) w t ty e i z ht hi hz ⟨g, o, none⟩ n cap xs hx (fun j u hj => by rw [Addr.add_lit]; exact hown.cells rfl j u hj) a m c news hl hnews (by omega) (by omega) (growslice_fits (by omega) hbig)
      refine ⟨_, _, hr2, ?_, ?_, .inr rfl⟩
      · refine ⟨by rw [List.length_append, hx, hl, ← Nat.add_mul], .inr ⟨w.heap.size, 0, grownCap w (n + m) cap e, _, rfl, hbase, heap_alloc_new w.drew _, ?_, ?_, ?_, ?_, ?_⟩⟩
        · exact grownCap_ge w (n + m) cap e
        · exact grownCap_le_maxLen w (n + m) cap e (by unfold maxLen; omega)
        · simp [size_zeroCells, hl, hx, hzs]
          have := grownCap_ge w (n + m) cap e
          rw [← Nat.add_mul, ← Nat.add_mul]
          exact Nat.mul_le_mul_right _ (by omega)
        · have : 0 < m * i.size := Nat.mul_pos hm0 hsz
          simp [hl, hx]; omega
        · rw [Nat.add_mul, ← hl, ← hx]
          simp only [Array.toList_append, List.drop_zero]
          exact List.take_left' (by simp)
      · exact ⟨rfl, rfl, rfl, by simp, fun k hk _ => by rw [Below.heap_alloc _ _ _ (by simpa using hk)]; rfl⟩

theorem wp_append_seg {o : Oper} {a : Act} {K : Act → World → Prop} {Q : Exit → Act → World → Prop} (s x : Operand) (t : TypeId)
    (ho : o.op = .call { callee := .builtin .append, args := #[s, x], argTypes := #[t, t] })
    (base : Nat) (e : TypeId) (i : TypeInfo) (z : Value) (size bytes : Nat) (ht : P.underlying t = some (.slice e)) (hi : P.info? e = some i) (hz : i.zero = some z)
    (hsize : i.size = size) (hby : i.bytes = bytes) (hzs : z.cells.size = size) (hsz : 0 < size)
    (v : Value) (n : Nat) (xs : List Value) (hs : a.eval s = v) (hown : Seg w base e size v n xs)
    (ad : Addr) (m c : Nat) (news : List Value) (hx : a.eval x = .slice (some ad) m c) (hl : news.length = m * size) (hnews : ∀ j u, news[j]? = some u → w.cell? (ad.add j) = some u) (h1 : ∀ u ∈ news, u.oneCell' = true)
    (hm0 : 0 < m) (h63 : n + m ≤ 1000000) (hbytes : bytes ≤ 1000) (hbase : base ≤ w.heap.size)
    (h : ∀ v' w', Seg w' base e size v' (n + m) (xs ++ news) → w.grownBy w' v.ownBlock → (v.ownBlock = v'.ownBlock ∨ v'.ownBlock = some w.heap.size) → K (a.put o.dst v') w') : o.wp P a w K Q := by
  obtain ⟨v', w', hr, h2, h3, h4⟩ := run_append_seg (P := P) w base t o.type e i z size bytes ht hi hz hsize hby hzs hsz v n xs hown ad m c news hl hnews h1 hm0 h63 hbytes hbase
  unfold Oper.wp execOp
  simp only [ho, resolve, invoke, builtin, Sem.run_bind, Sem.run_pure, Result.andThen_ok, List.map_toArray, List.map_cons, List.map_nil, hs, hx, hr]
  exact h v' w' h2 h3 h4
theorem wpList_append_seg {ops : Array Oper} {rest : List Oper} {o : Oper} {a : Act} {Q : Exit → Act → World → Prop} (hgd : o.guard = none) (s x : Operand) (t : TypeId)
    (ho : o.op = .call { callee := .builtin .append, args := #[s, x], argTypes := #[t, t] })
    (base : Nat) (e : TypeId) (i : TypeInfo) (z : Value) (size bytes : Nat) (ht : P.underlying t = some (.slice e)) (hi : P.info? e = some i) (hz : i.zero = some z)
    (hsize : i.size = size) (hby : i.bytes = bytes) (hzs : z.cells.size = size) (hsz : 0 < size)
    (v : Value) (n : Nat) (xs : List Value) (hs : a.eval s = v) (hown : Seg w base e size v n xs)
    (ad : Addr) (m c : Nat) (news : List Value) (hx : a.eval x = .slice (some ad) m c) (hl : news.length = m * size) (hnews : ∀ j u, news[j]? = some u → w.cell? (ad.add j) = some u) (h1 : ∀ u ∈ news, u.oneCell' = true)
    (hm0 : 0 < m) (h63 : n + m ≤ 1000000) (hbytes : bytes ≤ 1000) (hbase : base ≤ w.heap.size)
    (h : ∀ v' w', Seg w' base e size v' (n + m) (xs ++ news) → w.grownBy w' v.ownBlock → (v.ownBlock = v'.ownBlock ∨ v'.ownBlock = some w.heap.size) → wpList P ops Q rest (a.put o.dst v') w') :
    wpList P ops Q (o :: rest) a w := by
  refine wpList_plain hgd fun K hK => ?_
  exact wp_append_seg (P := P) w s x t ho base e i z size bytes ht hi hz hsize hby hzs hsz v n xs hs hown ad m c news hx hl hnews h1 hm0 h63 hbytes hbase fun v' w' x1 x2 x3 => hK _ _ (h v' w' x1 x2 x3)

/-- copy(dst, src): all is read before anything is written. -/
theorem run_copy_seg (dT sT ty elem t : TypeId) (size : Nat) (g o dLen dCap : Nat) (a : Addr) (sLen sCap k : Nat) (cs : List Value) (cur : Array Value)
    (hu : P.underlying dT = some (.slice elem)) (hs : (P.info? elem).map (·.size) = some size) (hk : Nat.min sLen dLen = k) (hn : cs.length = k * size)
    (hsrc : ∀ j v, cs[j]? = some v → w.cell? (a.add j) = some v) (hg : w.heap[g]? = some (.cells cur t (0, 0))) (hfit : o + k * size ≤ cur.size) (h1 : ∀ v ∈ cs, v.oneCell' = true) :
    (Builtin.copy_ #[dT, sT] ty #[.slice (some ⟨g, o, none⟩) dLen dCap, .slice (some a) sLen sCap]).run P w = .ok (goInt k) (w.setRow g (splice cur.toList o cs).toArray) := by
  have hst := run_storeCells_at P g o t cs 0 cur w hg (by rw [hn]; simpa using hfit) h1
  simp only [Nat.add_zero] at hst
  have hl := run_loadCells_list (P := P) w a cs hsrc
  cases hq : P.info? elem with
  | none => simp [hq] at hs
  | some i =>
    have hi : i.size = size := by simpa [hq] using hs
    simp [Builtin.copy_, run_underlying hu, Builtin.lenOf, Builtin.firstCells, sizeOf, typeInfo, hq, hi, hk, ← hn, hl, hst, splice]

theorem wpList_copy_seg {ops : Array Oper} {rest : List Oper} {o : Oper} {ac : Act} {Q : Exit → Act → World → Prop} (hgd : o.guard = none) (d s : Operand) (dT sT : TypeId)
    (ho : o.op = .call { callee := .builtin .copy, args := #[d, s], argTypes := #[dT, sT] }) (elem t : TypeId) (size : Nat) (g off dLen dCap : Nat) (a : Addr) (sLen sCap k : Nat) (cs : List Value) (cur : Array Value)
    (hd : ac.eval d = .slice (some ⟨g, off, none⟩) dLen dCap) (hsv : ac.eval s = .slice (some a) sLen sCap)
    (hu : P.underlying dT = some (.slice elem)) (hs : (P.info? elem).map (·.size) = some size) (hk : Nat.min sLen dLen = k) (hn : cs.length = k * size)
    (hsrc : ∀ j v, cs[j]? = some v → w.cell? (a.add j) = some v) (hg : Hid (w.heap[g]? = some (.cells cur t (0, 0)))) (hfit : off + k * size ≤ cur.size) (h1 : ∀ v ∈ cs, v.oneCell' = true)
    (h : ∀ w', Hid (w'.heap[g]? = some (.cells (splice cur.toList off cs).toArray t (0, 0))) → Upd [g] w w' → w'.heap.size = w.heap.size → wpList P ops Q rest (ac.put o.dst (goInt k)) w') :
    wpList P ops Q (o :: rest) ac w := by
  refine wpList_plain hgd fun K hK => ?_
  have hrun := run_copy_seg (P := P) w dT sT o.type elem t size g off dLen dCap a sLen sCap k cs cur hu hs hk hn hsrc hg.out hfit h1
  unfold Oper.wp
  simp [execOp, ho, resolve, invoke, builtin, hd, hsv, hrun, Result.andThen]
  exact hK _ _ (h _ (show _ = _ from setRow_heap w g _ _ t _ hg.out)
    ⟨rfl, rfl, rfl, by simp [World.setRow], fun k hk hn => setRow_other w g k _ (by simpa using hn)⟩ (by simp [World.setRow]))
end
end Go.Proofs.Ytlmfgdibodpniaa
