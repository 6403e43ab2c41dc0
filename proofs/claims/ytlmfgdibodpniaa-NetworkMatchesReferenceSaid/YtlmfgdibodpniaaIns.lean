/- slices.Insert of one copy. -/
import Derived.Test.YtlmfgdibodpniaaBs
import Derived.Lib.AppendZeros
namespace Go.Proofs.Ytlmfgdibodpniaa
open Go.RowKit

section
variable {P : Program}
theorem wp_copy_run {o : Oper} {a : Act} {w : World} {K : Act → World → Prop} {Q : Exit → Act → World → Prop} (d x : Operand) (dT sT : TypeId)
    (hop : o.op = .call { callee := .builtin .copy, args := #[d, x], argTypes := #[dT, sT] }) (v u : Value) (hd : a.eval d = v) (hx : a.eval x = u) {v' : Value} {w' : World}
    (hr : (Builtin.copy_ #[dT, sT] o.type #[v, u]).run P w = .ok v' w') (hK : K (a.put o.dst v') w') : Oper.wp P o a w K Q := by
  unfold Oper.wp
  simp [execOp, hop, resolve, invoke, builtin, hd, hx, hr, Result.andThen]
  exact hK
theorem wpList_copy_run {ops : Array Oper} {rest : List Oper} {o : Oper} {a : Act} {w : World} {Q : Exit → Act → World → Prop} (hgd : o.guard = none) (d x : Operand) (dT sT : TypeId)
    (hop : o.op = .call { callee := .builtin .copy, args := #[d, x], argTypes := #[dT, sT] }) (v u : Value) (hd : a.eval d = v) (hx : a.eval x = u) {v' : Value} {w' : World}
    (hr : (Builtin.copy_ #[dT, sT] o.type #[v, u]).run P w = .ok v' w') (h : wpList P ops Q rest (a.put o.dst v') w') : wpList P ops Q (o :: rest) a w :=
  wpList_plain hgd fun _ hK => wp_copy_run d x dT sT hop v u hd hx hr (hK _ _ h)
theorem step_copy_run {ops : Array Oper} {o : Oper} {a : Act} {w : World} {K : Act → World → Prop} {Q : Exit → Act → World → Prop} {E : Prop}
    (hg : o.guard = none) (d x : Operand) (dT sT : TypeId) (hop : o.op = .call { callee := .builtin .copy, args := #[d, x], argTypes := #[dT, sT] })
    (v u : Value) (hd : a.eval d = v) (hx : a.eval x = u) {v' : Value} {w' : World} (hr : (Builtin.copy_ #[dT, sT] o.type #[v, u]).run P w = .ok v' w') (hK : K (a.put o.dst v') w') :
    if Region.wanted o (yielded ops a.tmps) = true then Oper.wp P o a w K Q else E := by
  have hw : Region.wanted o (yielded ops a.tmps) = true := by simp [Region.wanted, hg]
  rw [if_pos hw]
  exact wp_copy_run d x dT sT hop v u hd hx hr hK
end

/-! ### Lists -/
theorem splice_get (l : List Value) (off : Nat) (cs : List Value) (h : off + cs.length ≤ l.length) (j : Nat) :
    (splice l off cs)[j]? = if j < off then l[j]? else if j < off + cs.length then cs[j - off]? else l[j]? := by
  have hl : (l.take off).length = off := by rw [List.length_take]; omega
  unfold splice
  by_cases h1 : j < off
  · rw [if_pos h1]
    rw [List.getElem?_append_left (by omega), List.getElem?_take, if_pos h1]
  · rw [if_neg h1, List.getElem?_append_right (by omega), hl]
    by_cases h2 : j < off + cs.length
    · rw [if_pos h2, List.getElem?_append_left (by omega)]
    · rw [if_neg h2, List.getElem?_append_right (by omega), List.getElem?_drop]
      congr 1; omega

theorem ins_get (xs new : List Value) (a : Nat) (ha : a ≤ xs.length) (j : Nat) :
    (xs.take a ++ (new ++ xs.drop a))[j]? = if j < a then xs[j]? else if j < a + new.length then new[j - a]? else xs[j - new.length]? := by
  simp only [List.getElem?_append, List.length_take, List.getElem?_take, List.getElem?_drop]
  have e : min a xs.length = a := by omega
  rw [e]
  by_cases h1 : j < a
  · rw [if_pos h1, if_pos h1, if_pos h1]
  · rw [if_neg h1, if_neg h1]
    by_cases h2 : j < a + new.length
    · rw [if_pos (by omega), if_pos h2]
    · rw [if_neg (by omega), if_neg h2]
      congr 1; omega

/-- Two copies in place: the tail moves up, the new cells take its place. -/
theorem shift_eq (cur xs new : List Value) (o n m a : Nat) (hx : (cur.drop o).take n = xs) (hn : xs.length = n) (hm : new.length = m) (ha : a ≤ n) (hf : o + n + m ≤ cur.length) :
    ((splice (splice cur (o + a + m) (xs.drop a)) (o + a) new).drop o).take (n + m) = xs.take a ++ (new ++ xs.drop a) := by
  have hd : (xs.drop a).length = n - a := by rw [List.length_drop, hn]
  have l1 : (splice cur (o + a + m) (xs.drop a)).length = cur.length := length_splice _ _ _ (by rw [hd]; omega)
  apply List.ext_getElem?
  intro j
  rw [List.getElem?_take, List.getElem?_drop, splice_get _ _ _ (by rw [l1, hm]; omega), splice_get _ _ _ (by rw [hd]; omega), ins_get _ _ _ (by omega), hm, hd]
  have hxj : ∀ i, i < n → xs[i]? = cur[o + i]? := by
    intro i hi
    rw [← hx, List.getElem?_take, if_pos hi, List.getElem?_drop]
  by_cases h0 : j < n + m
  · rw [if_pos h0]
    by_cases h1 : j < a
    · rw [if_pos (by omega), if_pos (by omega), if_pos h1, hxj j (by omega)]
    · by_cases h2 : j < a + m
      · rw [if_neg (by omega), if_pos (by omega), if_neg h1, if_pos h2]
        congr 1; omega
      · rw [if_neg (by omega), if_neg (by omega), if_neg (by omega), if_pos (by omega), if_neg h1, if_neg h2, List.getElem?_drop]
        congr 1; omega
  · rw [if_neg h0, if_neg (by omega), if_neg (by omega), List.getElem?_eq_none (by omega)]

/-- The same in a new row: what was before the place, then zeros; the new cells, then the tail. -/
theorem fresh_eq (cur xs new : List Value) (n m a : Nat) (hn : xs.length = n) (hm : new.length = m) (ha : a ≤ n) (hc : cur.take a = xs.take a) (hf : n + m ≤ cur.length) :
    (splice (splice cur a new) (a + m) (xs.drop a)).take (n + m) = xs.take a ++ (new ++ xs.drop a) := by
  have hd : (xs.drop a).length = n - a := by rw [List.length_drop, hn]
  have l1 : (splice cur a new).length = cur.length := length_splice _ _ _ (by rw [hm]; omega)
  apply List.ext_getElem?
  intro j
  rw [List.getElem?_take, splice_get _ _ _ (by rw [l1, hd]; omega), splice_get _ _ _ (by rw [hm]; omega), ins_get _ _ _ (by omega), hm, hd]
  by_cases h0 : j < n + m
  · rw [if_pos h0]
    by_cases h1 : j < a
    · have := congrArg (fun l => l[j]?) hc
      simp only [List.getElem?_take, if_pos h1] at this
      rw [if_pos (by omega), if_pos (by omega), if_pos h1, this]
    · by_cases h2 : j < a + m
      · rw [if_pos (by omega), if_neg (by omega), if_pos (by omega), if_neg h1, if_pos h2]
      · rw [if_neg (by omega), if_pos (by omega), if_neg h1, if_neg h2, List.getElem?_drop]
        congr 1; omega
  · rw [if_neg h0, if_neg (by omega), if_neg (by omega), List.getElem?_eq_none (by omega)]

theorem flat5_len (l : List Cp) : (l.flatMap cpVals).length = l.length * 5 := by
  induction l with
  | nil => rfl
  | cons a l ih => simp only [List.flatMap_cons, List.length_append, ih, List.length_cons, cpVals, List.length_nil]; omega
theorem flat5_take (l : List Cp) (k : Nat) : (l.flatMap cpVals).take (k * 5) = (l.take k).flatMap cpVals := by
  induction l generalizing k with
  | nil => simp
  | cons a l ih =>
    cases k with
    | zero => simp
    | succ k =>
      have e : (k + 1) * 5 = 5 + k * 5 := by omega
      have h5 : (cpVals a).length = 5 := rfl
      rw [List.flatMap_cons, e, List.take_succ_cons, List.flatMap_cons, ← ih k, ← h5, List.take_length_add_append]
theorem flat5_drop (l : List Cp) (k : Nat) : (l.flatMap cpVals).drop (k * 5) = (l.drop k).flatMap cpVals := by
  induction l generalizing k with
  | nil => simp
  | cons a l ih =>
    cases k with
    | zero => simp
    | succ k =>
      have e : (k + 1) * 5 = 5 + k * 5 := by omega
      have h5 : (cpVals a).length = 5 := rfl
      rw [List.flatMap_cons, e, List.drop_succ_cons, ← ih k, ← h5, List.drop_length_add_append]
theorem flat5_one {l : List Cp} {u : Value} (h : u ∈ l.flatMap cpVals) : u.oneCell' = true := by
  obtain ⟨c, _, hu⟩ := List.mem_flatMap.1 h
  simp only [cpVals, List.mem_cons, List.not_mem_nil, or_false] at hu
  rcases hu with rfl | rfl | rfl | rfl | rfl <;> rfl
theorem flat5_get (l : List Cp) (i j : Nat) (hi : i < l.length) (hj : j < 5) : (l.flatMap cpVals)[i * 5 + j]? = (cpVals l[i])[j]? := by
  have h1 := flat5_drop l i
  have h2 : ((l.flatMap cpVals).drop (i * 5))[j]? = (l.flatMap cpVals)[i * 5 + j]? := by rw [List.getElem?_drop]
  rw [← h2, h1, List.drop_eq_getElem_cons hi, List.flatMap_cons, List.getElem?_append_left (by exact hj)]

theorem info65 : (Try.prog.info? 65).map (fun i => (i.zero, i.size, i.bytes)) = some (some (.agg #[.int .i64 0, .int .i64 0, .string ByteArray.empty, .int .i64 0, .int .i64 0]), 5, 48) := by kernel_rfl

/-- What Insert leaves. -/
def InsPost (w : World) (base : Nat) (v : Value) (l : List Cp) (e : Ending) (w' : World) : Prop :=
  ∃ v', e = .returned v' ∧ Seg w' base 65 5 v' l.length (l.flatMap cpVals) ∧ Upd v.ownBlock.toList w w' ∧ (v'.ownBlock = v.ownBlock ∨ ∃ g, v'.ownBlock = some g ∧ w.heap.size ≤ g)

set_option maxHeartbeats 1000000 in
theorem insert_end {w : World} {base : Nat} {v : Value} {l : List Cp} (hs : Seg w base 65 5 v l.length (l.flatMap cpVals)) (hl : l.length < 4000) (hb : base ≤ w.heap.size) (X : Nat) (x : Cp)
    (hX : w.heap[X]? = some (.cells (cpVals x).toArray 65 (0, 0))) :
    Calls Try.prog 35 #[v, .int .i64 l.length, .slice (some ⟨X, 0, none⟩) 1 1] w (InsPost w base v (l ++ [x])) := by
  obtain ⟨i0, hi, hz0, hz1, hz2⟩ := info_parts info65
  obtain ⟨a, cap, rfl, hc1, hc2, hc3⟩ := hs.form
  have HX := Lib.hid hX
  have HS := Lib.hid hs
  have HC := Lib.hid hc3
  clear hX hs hc3
  unfold maxLen at hc2
  have hnews : ∀ j u, (cpVals x)[j]? = some u → w.cell? ((⟨X, 0, none⟩ : Addr).add j) = some u := by
    intro j u hj
    rw [Addr.add_lit, cell_of_row w X (0 + j) _ 65 (0, 0) HX.out]
    simpa using hj
  have HN := Lib.hid hnews
  have h1 : ∀ u ∈ cpVals x, u.oneCell' = true := fun u hu => flat5_one (l := [x]) (by simpa using hu)
  have H1 := Lib.hid h1
  clear hnews h1
  have h63 : l.length + 1 ≤ 1000000 := by omega
  have HI : Hid (Try.prog.info? 65 = some i0) := hi
  clear hi
  have HF : Hid (∀ v' w1, Seg w1 base 65 5 v' (l.length + 1) (l.flatMap cpVals ++ cpVals x) → w.grownBy w1 (Value.slice a l.length cap).ownBlock → ((Value.slice a l.length cap).ownBlock = v'.ownBlock ∨ v'.ownBlock = some w.heap.size) → InsPost w base (.slice a l.length cap) (l ++ [x]) (.returned v') w1) := by
    intro v' w1 h1 h2 h3
    refine ⟨v', rfl, ?_, ?_, ?_⟩
    · rw [List.length_append, List.flatMap_append]
      simpa using h1
    · exact (Upd.refl _ _).grown h2 (fun k hk => .inl (by simp [hk]))
    · rcases h3 with h | h
      · exact .inl h.symm
      · exact .inr ⟨_, h, Nat.le_refl _⟩
  by_cases hcap : cap = l.length
  · subst hcap
    go_enter Try.func35, Try.ntmps35
    go_wp2_with (at_builtin; refine wpList_append_seg _ rfl _ _ 66 rfl base 65 i0 _ 5 48 Try.underlying66 HI.out hz0 hz1 hz2 rfl (by decide) _ l.length _ rfl HS.out ⟨X, 0, none⟩ 1 1 (cpVals x) rfl rfl HN.out H1.out (by decide) h63 (by decide) hb ?_; intro v' w1 hs1 hg hv; have HV := Lib.hid (HF.out _ _ hs1 hg hv); clear hv hs1 hg)
    go_ret
    exact HV.out
  · go_enter Try.func35, Try.ntmps35
    go_wp2_with (at_builtin; refine wpList_append_seg _ rfl _ _ 66 rfl base 65 i0 _ 5 48 Try.underlying66 HI.out hz0 hz1 hz2 rfl (by decide) _ l.length _ rfl HS.out ⟨X, 0, none⟩ 1 1 (cpVals x) rfl rfl HN.out H1.out (by decide) h63 (by decide) hb ?_; intro v' w1 hs1 hg hv; have HV := Lib.hid (HF.out _ _ hs1 hg hv); clear hv hs1 hg)
    go_ret
    exact HV.out

theorem size5 : (Try.prog.info? 65).map (·.size) = some 5 := by kernel_rfl
theorem sizeOf65 : ∀ w, (Go.sizeOf 65).run Try.prog w = .ok 5 w := by
  intro w; kernel_rfl

set_option maxHeartbeats 2000000 in
theorem insert_room {w : World} {base : Nat} {g o cap : Nat} {cur : Array Value} {l : List Cp} (hg : w.heap[g]? = some (.cells cur 65 (0, 0))) (hbg : base ≤ g) (hfit : o + cap * 5 ≤ cur.size) (hx : (cur.toList.drop o).take (l.length * 5) = l.flatMap cpVals)
    (hl : l.length < 4000) (hcm : cap ≤ maxLen) (hroom : l.length + 1 ≤ cap) (pos : Nat) (hp : pos < l.length) (X : Nat) (x : Cp)
    (hX : w.heap[X]? = some (.cells (cpVals x).toArray 65 (0, 0))) (hXg : X ≠ g) :
    Calls Try.prog 35 #[.slice (some ⟨g, o, none⟩) l.length cap, .int .i64 pos, .slice (some ⟨X, 0, none⟩) 1 1] w (InsPost w base (.slice (some ⟨g, o, none⟩) l.length cap) (l.take pos ++ x :: l.drop pos)) := by
  unfold maxLen at hcm
  have hxl : (l.flatMap cpVals).length = l.length * 5 := flat5_len l
  have hov : ∀ lb cb, (callFunc 39 #[.slice (some ⟨X, 0, none⟩) 1 1, .slice (some ⟨g, o + (pos + 1) * 5, none⟩) lb cb]).run Try.prog w = .ok (.value (.bool false)) w := fun lb cb => by
    rw [run_callFunc_extern (fn := Try.f39) (by kernel_rfl) (by kernel_rfl) (by kernel_rfl) (by kernel_rfl) (e := Extern.SlicesOverlaps.overlaps #[66, 66] #[4]) (by kernel_rfl),
      Lib.run_overlaps_apart w 66 4 65 Try.underlying66 5 sizeOf65 ⟨X, 0, none⟩ ⟨g, o + (pos + 1) * 5, none⟩ 1 1 lb cb hXg 65 65 5 cur.size (by simp [World.shape?, hX]; rfl) (by simp [World.shape?, hg]) (by omega) (by simp [World.frozen?, hX]) (by simp [World.frozen?, hX])]
    rfl
  have hd : ((l.flatMap cpVals).drop (pos * 5)).length = (l.length - pos) * 5 := by rw [List.length_drop, hxl]; omega
  have hcp1 : ∀ dn, dn = l.length - pos → ∀ sn, sn = l.length + 1 - pos → ∀ ty dc sc, (Builtin.copy_ #[66, 66] ty #[.slice (some ⟨g, o + (pos + 1) * 5, none⟩) dn dc, .slice (some ⟨g, o + pos * 5, none⟩) sn sc]).run Try.prog w.drew =
      .ok (goInt ((l.length - pos : Nat) : Int)) (w.drew.setRow g (splice cur.toList (o + (pos + 1) * 5) ((l.flatMap cpVals).drop (pos * 5))).toArray) := fun dn hdn sn hsn ty dc sc => by
    subst hdn; subst hsn
    have hgd : w.drew.heap[g]? = some (.cells cur 65 (0, 0)) := hg
    refine run_copy_seg w.drew 66 66 ty 65 65 5 g (o + (pos + 1) * 5) (l.length - pos) dc ⟨g, o + pos * 5, none⟩ (l.length + 1 - pos) sc (l.length - pos) _ cur Try.underlying66 size5 ?_ hd ?_ hgd (by omega) (fun v hv => flat5_one (List.mem_of_mem_drop hv))
    · simp only [Nat.min_def]; split <;> omega
    · intro j v hj
      rw [Addr.add_lit, cell_of_row w.drew g (o + pos * 5 + j) cur 65 (0, 0) hgd, ← hj, ← hx, List.getElem?_drop, List.getElem?_take, List.getElem?_drop]
      have : j < (l.length - pos) * 5 := by rw [← hd]; exact (List.getElem?_eq_some_iff.1 hj).1
      rw [if_pos (by omega)]
      simp [Nat.add_assoc]
  have hsp1 : (splice cur.toList (o + (pos + 1) * 5) ((l.flatMap cpVals).drop (pos * 5))).length = cur.size := by rw [length_splice _ _ _ (by rw [hd]; simp; omega)]; simp
  obtain ⟨W1, hW1⟩ : ∃ W1, W1 = w.drew.setRow g (splice cur.toList (o + (pos + 1) * 5) ((l.flatMap cpVals).drop (pos * 5))).toArray := ⟨_, rfl⟩
  rw [← hW1] at hcp1
  have hcp2 : ∀ dn, dn = l.length + 1 - pos → ∀ ty dc, (Builtin.copy_ #[66, 66] ty #[.slice (some ⟨g, o + pos * 5, none⟩) dn dc, .slice (some ⟨X, 0, none⟩) 1 1]).run Try.prog W1 =
      .ok (goInt 1) (W1.setRow g (splice (splice cur.toList (o + (pos + 1) * 5) ((l.flatMap cpVals).drop (pos * 5))) (o + pos * 5) (cpVals x)).toArray) := fun dn hdn ty dc => by
    subst hdn
    have hg1 : W1.heap[g]? = some (.cells (splice cur.toList (o + (pos + 1) * 5) ((l.flatMap cpVals).drop (pos * 5))).toArray 65 (0, 0)) := by rw [hW1]; exact setRow_heap w.drew g _ _ 65 _ hg
    have hX1 : W1.heap[X]? = some (.cells (cpVals x).toArray 65 (0, 0)) := by rw [hW1, setRow_other w.drew g X _ hXg]; exact hX
    have := run_copy_seg (P := Try.prog) W1 66 66 ty 65 65 5 g (o + pos * 5) (l.length + 1 - pos) dc ⟨X, 0, none⟩ 1 1 1 (cpVals x) _ Try.underlying66 size5 (by simp only [Nat.min_def]; split <;> omega) rfl ?_ hg1 (by simp only [List.size_toArray, hsp1]; omega) (fun v hv => flat5_one (l := [x]) (by simpa using hv))
    · exact this
    · intro j v hj
      rw [Addr.add_lit, cell_of_row W1 X (0 + j) _ 65 (0, 0) hX1]
      simpa using hj
  have hfin : Hid (InsPost w base (.slice (some ⟨g, o, none⟩) l.length cap) (l.take pos ++ x :: l.drop pos) (.returned (.slice (some ⟨g, o, none⟩) (l.length + 1) cap)) (W1.setRow g (splice (splice cur.toList (o + (pos + 1) * 5) ((l.flatMap cpVals).drop (pos * 5))) (o + pos * 5) (cpVals x)).toArray)) := by
    have hg1 : W1.heap[g]? = some (.cells (splice cur.toList (o + (pos + 1) * 5) ((l.flatMap cpVals).drop (pos * 5))).toArray 65 (0, 0)) := by rw [hW1]; exact setRow_heap w.drew g _ _ 65 _ hg
    have hU1 : Upd [g] w W1 := by
      rw [hW1]
      exact ((Upd.refl [g] w).drew).trans ⟨rfl, rfl, rfl, by simp [World.setRow], fun k hk hn => setRow_other w.drew g k _ (by simpa using hn)⟩
    have hU2 : Upd [g] w (W1.setRow g (splice (splice cur.toList (o + (pos + 1) * 5) ((l.flatMap cpVals).drop (pos * 5))) (o + pos * 5) (cpVals x)).toArray) :=
      hU1.trans ⟨rfl, rfl, rfl, by simp [World.setRow], fun k hk hn => setRow_other W1 g k _ (by simpa using hn)⟩
    have hlen : (l.take pos ++ x :: l.drop pos).length = l.length + 1 := by simp; omega
    have hsp2 : (splice (splice cur.toList (o + (pos + 1) * 5) ((l.flatMap cpVals).drop (pos * 5))) (o + pos * 5) (cpVals x)).length = cur.size := by
      rw [length_splice _ _ _ (by rw [hsp1]; show _ + 5 ≤ _; omega), hsp1]
    refine ⟨_, rfl, ?_, hU2, .inl rfl⟩
    rw [hlen]
    refine ⟨by rw [flat5_len, hlen], .inr ⟨g, o, cap, _, rfl, hbg, setRow_heap W1 g _ _ 65 _ hg1, hroom, hcm, by rw [List.size_toArray, hsp2]; exact hfit, by rw [List.size_toArray, hsp2]; omega, ?_⟩⟩
    have h1 := shift_eq cur.toList (l.flatMap cpVals) (cpVals x) o (l.length * 5) 5 (pos * 5) hx hxl rfl (by omega) (by simp; omega)
    have e1 : o + pos * 5 + 5 = o + (pos + 1) * 5 := by omega
    have e2 : l.length * 5 + 5 = (l.length + 1) * 5 := by omega
    rw [e1, e2] at h1
    show List.take ((l.length + 1) * 5) (List.drop o (splice _ _ _)) = _
    rw [h1, flat5_take, flat5_drop, List.flatMap_append, List.flatMap_cons]
  clear hW1 hg hX hx
  have hw1 : IntKind.i64.wrap ((pos : Int) + 1) = (pos : Int) + 1 := by rw [IntKind.wrap_i64]; omega
  have hb1 : (0 : Int) ≤ (pos : Int) + 1 := by omega
  have htn : ((pos : Int) + 1).toNat = pos + 1 := by omega
  have hb2 : ¬ (cap = pos + 1) := by omega
  have hb3 : (pos : Int) ≤ (l.length : Int) + 1 := by omega
  have hb4 : ¬ (cap = pos) := by omega
  have hb5 : ((pos : Int) == (l.length : Int)) = false := by rw [beq_eq_false_iff_ne]; omega
  have hb6 : pos ≤ l.length := by omega
  have hb7 : (pos : Int) + 1 ≤ (l.length : Int) + 1 := by omega
  have hb8 : (pos : Int) ≤ (l.length : Int) := by omega
  have hb9 : (l.length : Int) + 1 ≤ (cap : Int) := by omega
  have hb10 : pos + 1 ≤ l.length + 1 := by omega
  go_enter Try.func35, Try.ntmps35
  go_wp2_with (simp only [hov])
  go_region_law (refine step_copy_run rfl _ _ 66 66 rfl _ _ (by simp [Act.eval, Act.put]) (by simp [Act.eval, Act.put]) (hcp1 _ (by omega) _ (by omega) _ _ _) ?_)
  go_wp2_with (at_builtin; refine wpList_copy_run rfl _ _ 66 66 rfl _ _ rfl rfl (hcp2 _ (by omega) _ _) ?_)
  go_ret
  exact hfin.out

set_option maxHeartbeats 2000000 in
theorem insert_grow {w : World} {base : Nat} {g o cap : Nat} {cur : Array Value} {l : List Cp} (hg : w.heap[g]? = some (.cells cur 65 (0, 0))) (hbg : base ≤ g) (hx : (cur.toList.drop o).take (l.length * 5) = l.flatMap cpVals)
    (hl : l.length < 4000) (hcm : cap ≤ maxLen) (hlc : l.length ≤ cap) (hroom : ¬ l.length + 1 ≤ cap) (pos : Nat) (hp : pos < l.length) (X : Nat) (x : Cp)
    (hX : w.heap[X]? = some (.cells (cpVals x).toArray 65 (0, 0))) :
    Calls Try.prog 35 #[.slice (some ⟨g, o, none⟩) l.length cap, .int .i64 pos, .slice (some ⟨X, 0, none⟩) 1 1] w (InsPost w base (.slice (some ⟨g, o, none⟩) l.length cap) (l.take pos ++ x :: l.drop pos)) := by
  obtain ⟨i0, hi, hz0, hz1, hz2⟩ := info_parts info65
  unfold maxLen at hcm
  have hxl : (l.flatMap cpVals).length = l.length * 5 := flat5_len l
  have hglt : g < w.heap.size := (Array.getElem?_eq_some_iff.1 hg).1
  have hXlt : X < w.heap.size := (Array.getElem?_eq_some_iff.1 hX).1
  have hcell : ∀ j u, (l.flatMap cpVals)[j]? = some u → w.cell? ⟨g, o + j, none⟩ = some u := by
    intro j u hj
    rw [cell_of_row w g (o + j) cur 65 (0, 0) hg, ← hj, ← hx, List.getElem?_take]
    have : j < l.length * 5 := by rw [← hxl]; exact (List.getElem?_eq_some_iff.1 hj).1
    rw [if_pos this, List.getElem?_drop]
    simp
  have hold : (Builtin.firstCells i0.size pos (.slice (some ⟨g, o, none⟩) pos cap)).run Try.prog w.drew = .ok ((l.take pos).flatMap cpVals).toArray w.drew := by
    refine run_firstCells_some (P := Try.prog) w.drew i0.size pos ⟨g, o, none⟩ pos cap _ ?_ ?_
    · rw [flat5_len, List.length_take, hz1]; congr 1; omega
    · intro j u hj
      rw [← flat5_take, List.getElem?_take] at hj
      split at hj
      · rw [Addr.add_lit]; exact hcell j u hj
      · cases hj
  have hfit := growslice_fits (need := l.length + 1) (old := cap) (bytes := 48) (by omega) (by omega)
  obtain ⟨C, hC⟩ : ∃ C, C = grownCap w (l.length + 1) cap 65 := ⟨_, rfl⟩
  have hCge : l.length + 1 ≤ C := by rw [hC]; exact grownCap_ge w _ _ _
  have hCle : C ≤ 9223372036854775807 := by
    have := grownCap_le_maxLen w (l.length + 1) cap 65 (by unfold maxLen; omega)
    unfold maxLen at this; rw [hC]; omega
  obtain ⟨Z, hZ⟩ : ∃ Z : Array Value, Z = ((l.take pos).flatMap cpVals).toArray ++ Builtin.zeroCells (Value.agg #[.int .i64 0, .int .i64 0, .string ByteArray.empty, .int .i64 0, .int .i64 0]).cells (l.length + 1 - pos) ++ Builtin.zeroCells (Value.agg #[.int .i64 0, .int .i64 0, .string ByteArray.empty, .int .i64 0, .int .i64 0]).cells (C - (l.length + 1)) := ⟨_, rfl⟩
  have hzc : (Value.agg #[.int .i64 0, .int .i64 0, .string ByteArray.empty, .int .i64 0, .int .i64 0]).cells.size = 5 := rfl
  have hol : ((l.take pos).flatMap cpVals).length = pos * 5 := by rw [flat5_len, List.length_take]; congr 1; omega
  have hZs : Z.size = C * 5 := by
    rw [hZ]; simp only [Array.size_append, size_zeroCells, hzc, List.size_toArray, hol]; omega
  have hZt : Z.toList.take (pos * 5) = (l.flatMap cpVals).take (pos * 5) := by
    rw [hZ, flat5_take]; simp only [Array.toList_append, List.append_assoc]
    rw [← hol]; exact List.take_left' rfl
  have hrun : ∀ ty, (Builtin.append_ #[66, 3] ty #[.slice (some ⟨g, o, none⟩) pos cap, .int .i64 ((l.length : Int) + 1 - pos)]).run Try.prog w = .ok (.slice (some ⟨w.heap.size, 0, none⟩) (l.length + 1) C) (w.drew.alloc (.cells Z 65)) := fun ty => by
    have e : ((l.length : Int) + 1 - pos) = ((l.length + 1 - pos : Nat) : Int) := by omega
    have e2 : pos + (l.length + 1 - pos) = l.length + 1 := by omega
    have := Lib.run_append_grow_zeros w 66 3 ty 65 i0 _ .i64 .i64 Try.underlying66 Try.underlying3 hi hz0 (some ⟨g, o, none⟩) pos cap _ hold (l.length + 1 - pos) (by omega) (by omega) (by omega) (by omega) (by rw [hz2]; omega) (by rw [hz2, e2]; exact hfit)
    rw [e, this, e2, ← hC, ← hZ]
  obtain ⟨W0, hW0⟩ : ∃ W0, W0 = w.drew.alloc (.cells Z 65) := ⟨_, rfl⟩
  have z0 : W0.heap[w.heap.size]? = some (.cells Z 65 (0, 0)) := by rw [hW0]; exact heap_alloc_new w.drew _
  have u0 : Upd [] w W0 := by rw [hW0]; exact ((Upd.refl _ _).drew).alloc _
  rw [← hW0] at hrun
  have hcp1 : ∀ dn, dn = l.length + 1 - pos → ∀ ty dc, (Builtin.copy_ #[66, 66] ty #[.slice (some ⟨w.heap.size, pos * 5, none⟩) dn dc, .slice (some ⟨X, 0, none⟩) 1 1]).run Try.prog W0 =
      .ok (goInt 1) (W0.setRow w.heap.size (splice Z.toList (pos * 5) (cpVals x)).toArray) := fun dn hdn ty dc => by
    subst hdn
    have hX1 : W0.heap[X]? = some (.cells (cpVals x).toArray 65 (0, 0)) := by rw [u0.block X hXlt (by simp)]; exact hX
    have := run_copy_seg (P := Try.prog) W0 66 66 ty 65 65 5 w.heap.size (pos * 5) (l.length + 1 - pos) dc ⟨X, 0, none⟩ 1 1 1 (cpVals x) _ Try.underlying66 size5 (by simp only [Nat.min_def]; split <;> omega) rfl ?_ z0 (by rw [hZs]; omega) (fun v hv => flat5_one (l := [x]) (by simpa using hv))
    · exact this
    · intro j v hj
      rw [Addr.add_lit, cell_of_row W0 X (0 + j) _ 65 (0, 0) hX1]
      simpa using hj
  obtain ⟨W1, hW1⟩ : ∃ W1, W1 = W0.setRow w.heap.size (splice Z.toList (pos * 5) (cpVals x)).toArray := ⟨_, rfl⟩
  have z1 : W1.heap[w.heap.size]? = some (.cells (splice Z.toList (pos * 5) (cpVals x)).toArray 65 (0, 0)) := by rw [hW1]; exact setRow_heap W0 _ _ _ 65 _ z0
  have u1 : Upd [] w W1 := by
    rw [hW1]
    exact u0.then (G := [w.heap.size]) ⟨rfl, rfl, rfl, by simp [World.setRow], fun k hk hn => setRow_other W0 w.heap.size k _ (by simpa using hn)⟩ (fun i hi => .inr (by simp at hi; omega))
  rw [← hW1] at hcp1
  have hs1 : (splice Z.toList (pos * 5) (cpVals x)).length = C * 5 := by
    rw [length_splice _ _ _ (by show _ + 5 ≤ _; simp only [Array.length_toList, hZs]; omega)]; simpa using hZs
  have hd : ((l.flatMap cpVals).drop (pos * 5)).length = (l.length - pos) * 5 := by rw [List.length_drop, hxl]; omega
  have hcp2 : ∀ dn, dn = l.length - pos → ∀ ty dc sc, (Builtin.copy_ #[66, 66] ty #[.slice (some ⟨w.heap.size, (pos + 1) * 5, none⟩) dn dc, .slice (some ⟨g, o + pos * 5, none⟩) (l.length - pos) sc]).run Try.prog W1.drew =
      .ok (goInt ((l.length - pos : Nat) : Int)) (W1.drew.setRow w.heap.size (splice (splice Z.toList (pos * 5) (cpVals x)) ((pos + 1) * 5) ((l.flatMap cpVals).drop (pos * 5))).toArray) := fun dn hdn ty dc sc => by
    subst hdn
    have z1' : W1.drew.heap[w.heap.size]? = some (.cells (splice Z.toList (pos * 5) (cpVals x)).toArray 65 (0, 0)) := z1
    have hgd : W1.drew.heap[g]? = some (.cells cur 65 (0, 0)) := by rw [(u1.drew).block g hglt (by simp)]; exact hg
    have hf2 : (pos + 1) * 5 + (l.length - pos) * 5 ≤ (splice Z.toList (pos * 5) (cpVals x)).toArray.size := by rw [List.size_toArray, hs1]; omega
    refine run_copy_seg W1.drew 66 66 ty 65 65 5 w.heap.size ((pos + 1) * 5) (l.length - pos) dc ⟨g, o + pos * 5, none⟩ (l.length - pos) sc (l.length - pos) _ _ Try.underlying66 size5 (by simp [Nat.min_def]) hd ?_ z1' hf2 (fun v hv => flat5_one (List.mem_of_mem_drop hv))
    intro j v hj
    rw [Addr.add_lit, cell_of_row W1.drew g (o + pos * 5 + j) cur 65 (0, 0) hgd, ← hj, ← hx, List.getElem?_drop, List.getElem?_take, List.getElem?_drop]
    have : j < (l.length - pos) * 5 := by rw [← hd]; exact (List.getElem?_eq_some_iff.1 hj).1
    rw [if_pos (by omega)]
    simp [Nat.add_assoc]
  have hfin : Hid (InsPost w base (.slice (some ⟨g, o, none⟩) l.length cap) (l.take pos ++ x :: l.drop pos) (.returned (.slice (some ⟨w.heap.size, 0, none⟩) (l.length + 1) C)) (W1.drew.setRow w.heap.size (splice (splice Z.toList (pos * 5) (cpVals x)) ((pos + 1) * 5) ((l.flatMap cpVals).drop (pos * 5))).toArray)) := by
    have hlen : (l.take pos ++ x :: l.drop pos).length = l.length + 1 := by simp; omega
    have hs2 : (splice (splice Z.toList (pos * 5) (cpVals x)) ((pos + 1) * 5) ((l.flatMap cpVals).drop (pos * 5))).length = C * 5 := by
      rw [length_splice _ _ _ (by rw [hs1, hd]; omega), hs1]
    have hu : Upd [] w (W1.drew.setRow w.heap.size (splice (splice Z.toList (pos * 5) (cpVals x)) ((pos + 1) * 5) ((l.flatMap cpVals).drop (pos * 5))).toArray) :=
      (u1.drew).then (G := [w.heap.size]) ⟨rfl, rfl, rfl, by simp [World.setRow], fun k hk hn => setRow_other W1.drew w.heap.size k _ (by simpa using hn)⟩ (fun i hi => .inr (by simp at hi; omega))
    refine ⟨_, rfl, ?_, hu.mono (by simp), .inr ⟨w.heap.size, rfl, Nat.le_refl _⟩⟩
    rw [hlen]
    refine ⟨by rw [flat5_len, hlen], .inr ⟨w.heap.size, 0, C, _, rfl, by omega, setRow_heap W1.drew w.heap.size _ _ 65 _ z1, hCge, by unfold maxLen; omega, by rw [List.size_toArray, hs2]; omega, by rw [List.size_toArray, hs2]; omega, ?_⟩⟩
    have h1 := fresh_eq Z.toList (l.flatMap cpVals) (cpVals x) (l.length * 5) 5 (pos * 5) hxl rfl (by omega) hZt (by simp only [Array.length_toList, hZs]; omega)
    have e1 : pos * 5 + 5 = (pos + 1) * 5 := by omega
    have e2 : l.length * 5 + 5 = (l.length + 1) * 5 := by omega
    rw [e1, e2] at h1
    show List.take ((l.length + 1) * 5) (List.drop 0 (splice _ _ _)) = _
    rw [List.drop_zero, h1, flat5_take, flat5_drop, List.flatMap_append, List.flatMap_cons]
  clear hW1 hW0 hg hX hx z0 z1 u0 u1 hZ hZs hZt hs1 hC hi hz0 hz1 hz2 hfit hol hzc hold hcell
  have hw1 : IntKind.i64.wrap ((pos : Int) + 1) = (pos : Int) + 1 := by rw [IntKind.wrap_i64]; omega
  have hb1 : (0 : Int) ≤ (pos : Int) + 1 := by omega
  have htn : ((pos : Int) + 1).toNat = pos + 1 := by omega
  have hb2 : ¬ (C = pos + 1) := by omega
  have hb3 : (pos : Int) ≤ (l.length : Int) + 1 := by omega
  have hb4 : ¬ (cap = pos) := by omega
  have hb4' : ¬ (C = pos) := by omega
  have hb5 : ((pos : Int) == (l.length : Int)) = false := by rw [beq_eq_false_iff_ne]; omega
  have hb6 : pos ≤ l.length := by omega
  have hb6' : pos ≤ cap := by omega
  have hb7 : (pos : Int) + 1 ≤ (l.length : Int) + 1 := by omega
  have hb8 : (pos : Int) ≤ (l.length : Int) := by omega
  have hb9 : (cap : Int) < (l.length : Int) + 1 := by omega
  have hb10 : pos + 1 ≤ l.length + 1 := by omega
  go_enter Try.func35, Try.ntmps35
  go_wp2_with (first | (at_builtin; refine Lib.wpList_append_run _ rfl _ _ _ _ rfl _ _ rfl rfl _ _ (hrun _) ?_) | (refine wpList_copy_run rfl _ _ 66 66 rfl _ _ rfl rfl (hcp1 _ (by omega) _ _) ?_))
  go_region_law (refine step_copy_run rfl _ _ 66 66 rfl _ _ (by simp [Act.eval, Act.put]) (by simp [Act.eval, Act.put]) (hcp2 _ (by omega) _ _ _) ?_)
  go_wp2
  go_ret
  exact hfin.out
end Go.Proofs.Ytlmfgdibodpniaa
