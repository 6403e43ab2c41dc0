/- play: what it computes, and its appends. -/
import Derived.Test.YtlmfgdibodpniaaBook
namespace Go.Proofs.Ytlmfgdibodpniaa
open Go.RowKit

/-! ### Plain -/
structure PS where
  net : NS
  used : Nat
  bk : Bk
def manyAt (fs : List Fa) (u : Nat) : Nat := (fs.getD u Fa.one).many
def Bk.send (k : Bk) (p : Pk) (m : Nat) : Bk := { k with sent := k.sent ++ List.replicate m p }
def Bk.recv (k : Bk) (h : Nat) (l : List Pk) : Bk := { k with got := k.got.set h (k.got.getD h [] ++ l) }
def PS.step (fs : List Fa) (s : PS) (o : OpR) : PS :=
  if o.kind = 0 then
    if (s.net.send o.p).2 = 0 then ⟨(s.net.send o.p).1, s.used + 1, s.bk.send o.p (manyAt fs s.used)⟩
    else { s with net := (s.net.send o.p).1 }
  else if o.kind = 1 then
    if s.net.has o.house = true then { s with net := s.net.recv o.house.toNat, bk := s.bk.recv o.house.toNat (s.net.got o.house.toNat) }
    else s
  else { s with net := s.net.step }
def PS.run (fs : List Fa) (s : PS) (l : List OpR) : PS := l.foldl (PS.step fs) s
theorem PS.run_take {fs : List Fa} {s : PS} {l : List OpR} {k : Nat} (hk : k < l.length) : PS.run fs s (l.take (k + 1)) = PS.step fs (PS.run fs s (l.take k)) l[k] := by
  unfold PS.run
  rw [List.take_succ_eq_append_getElem hk, List.foldl_append]
  rfl
theorem PS.run_append (fs : List Fa) (s : PS) (a b : List OpR) : PS.run fs s (a ++ b) = PS.run fs (PS.run fs s a) b := by
  unfold PS.run; rw [List.foldl_append]
theorem PS.run_cons (fs : List Fa) (s : PS) (o : OpR) (l : List OpR) : PS.run fs s (o :: l) = PS.run fs (PS.step fs s o) l := rfl

/-- What stays true, and how far things grow in n operations. -/
structure PS.Ok (n0 : Nat) (ht hn hf hs : Nat) (s : PS) : Prop where
  wf : s.net.Wf
  ways : s.net.ways.length = n0
  got : s.bk.got.length = n0
  time : s.net.time ≤ ht
  num : s.net.number ≤ hn
  fat : s.net.fates.length ≤ hf
  used : s.used ≤ ht
  sent : s.bk.sent.length ≤ hn
  gl : ∀ l ∈ s.bk.got, l.length ≤ hs

theorem send_ways (s : NS) (p : Pk) : (s.send p).1.ways.length = s.ways.length := by
  unfold NS.send
  split
  · rfl
  · split
    · rfl
    · rw [putN_ways_len]; rfl
theorem send_time (s : NS) (p : Pk) : (s.send p).1.time = s.time := by
  unfold NS.send
  split
  · rfl
  · split
    · rfl
    · rw [putN_time]; rfl
theorem send_number (s : NS) (h : s.Wf) (p : Pk) : (s.send p).1.number ≤ s.number + 9 := by
  unfold NS.send
  split
  · exact Nat.le_add_right _ _
  · split
    · exact Nat.le_add_right _ _
    · rw [putN_number]; have := Fa.many_le (NS.fate_right h); show s.number + _ ≤ _; omega
theorem send_fates (s : NS) (p : Pk) : (s.send p).1.fates.length ≤ s.fates.length := by
  unfold NS.send
  split
  · exact Nat.le_refl _
  · split
    · exact Nat.le_refl _
    · rw [putN_fates]; show s.fates.tail.length ≤ _; simp
theorem recv_ways (s : NS) (i : Nat) : (s.recv i).ways.length = s.ways.length := by simp [NS.recv]
theorem got_len (s : NS) (i : Nat) (h : s.Wf) : (s.got i).length ≤ 4000 := by
  unfold NS.got; rw [List.length_map]
  have := s.taken_le i; have := h.way_le i; have := h.lim; omega
theorem manyAt_le {fs : List Fa} (hr : rightB fs = true) (u : Nat) : manyAt fs u ≤ 9 := by
  unfold manyAt
  refine Fa.many_le ?_
  by_cases hu : u < fs.length
  · rw [List.getD_eq_getElem?_getD, List.getElem?_eq_getElem hu]
    exact List.all_eq_true.1 hr _ (List.getElem_mem hu)
  · rw [List.getD_eq_getElem?_getD, List.getElem?_eq_none (by omega)]; rfl

theorem PS.step_ok {fs : List Fa} (hr : rightB fs = true) {n0 ht hn hf hs : Nat} {s : PS} (h : s.Ok n0 ht hn hf hs) (o : OpR) : (s.step fs o).Ok n0 (ht + 1) (hn + 9) hf (hs + 4000) := by
  unfold PS.step
  split
  · split
    · refine ⟨send_wf h.wf _, by rw [send_ways]; exact h.ways, h.got, by rw [send_time]; have := h.time; omega, by have := send_number s.net h.wf o.p; have := h.num; show (s.net.send o.p).1.number ≤ _; omega,
        by have := send_fates s.net o.p; have := h.fat; show (s.net.send o.p).1.fates.length ≤ _; omega, by have := h.used; show s.used + 1 ≤ _; omega, ?_, fun l hl => by have := h.gl l hl; omega⟩
      show (s.bk.sent ++ List.replicate _ _).length ≤ _
      rw [List.length_append, List.length_replicate]
      have := manyAt_le hr s.used; have := h.sent; omega
    · exact ⟨send_wf h.wf _, by rw [send_ways]; exact h.ways, h.got, by rw [send_time]; have := h.time; omega, by have := send_number s.net h.wf o.p; have := h.num; show (s.net.send o.p).1.number ≤ _; omega,
        by have := send_fates s.net o.p; have := h.fat; show (s.net.send o.p).1.fates.length ≤ _; omega, by have := h.used; show s.used ≤ _; omega, by have := h.sent; show s.bk.sent.length ≤ _; omega, fun l hl => by have := h.gl l hl; omega⟩
  · split
    · split
      · rename_i hh
        have hi := has_lt hh
        refine ⟨recv_wf h.wf _ hi, by rw [recv_ways]; exact h.ways, by simp [Bk.recv]; exact h.got, by show s.net.time ≤ _; have := h.time; omega, by show s.net.number ≤ _; have := h.num; omega, h.fat, by have := h.used; show s.used ≤ _; omega, by have := h.sent; show s.bk.sent.length ≤ _; omega, ?_⟩
        intro l hl
        rcases List.mem_or_eq_of_mem_set hl with hl | rfl
        · have := h.gl l hl; omega
        · rw [List.length_append]
          have h1 := got_len s.net o.house.toNat h.wf
          have h2 : (s.bk.got.getD o.house.toNat []).length ≤ hs := by
            by_cases hj : o.house.toNat < s.bk.got.length
            · rw [List.getD_eq_getElem?_getD, List.getElem?_eq_getElem hj]; exact h.gl _ (List.getElem_mem hj)
            · rw [List.getD_eq_getElem?_getD, List.getElem?_eq_none (by omega)]; simp
          omega
      · exact ⟨h.wf, h.ways, h.got, by have := h.time; omega, by have := h.num; omega, h.fat, by have := h.used; omega, by have := h.sent; omega, fun l hl => by have := h.gl l hl; omega⟩
    · exact ⟨step_wf h.wf, h.ways, h.got, by have := h.time; show s.net.time + 1 ≤ _; omega, by have := h.num; show s.net.number ≤ _; omega, h.fat, by have := h.used; show s.used ≤ _; omega, by have := h.sent; show s.bk.sent.length ≤ _; omega, fun l hl => by have := h.gl l hl; omega⟩
theorem PS.run_ok {fs : List Fa} (hr : rightB fs = true) {n0 ht hn hf hs : Nat} (l : List OpR) : ∀ {s : PS}, s.Ok n0 ht hn hf hs → ∀ ht' hn' hs', ht + l.length ≤ ht' → hn + 9 * l.length ≤ hn' → hs + 4000 * l.length ≤ hs' → (s.run fs l).Ok n0 ht' hn' hf hs' := by
  induction l generalizing ht hn hs with
  | nil =>
    intro s h ht' hn' hs' h1 h2 h3
    simp only [List.length_nil, Nat.mul_zero, Nat.add_zero] at h1 h2 h3
    exact ⟨h.wf, h.ways, h.got, Nat.le_trans h.time h1, Nat.le_trans h.num h2, h.fat, Nat.le_trans h.used h1, Nat.le_trans h.sent h2, fun l hl => Nat.le_trans (h.gl l hl) h3⟩
  | cons o l ih =>
    intro s h ht' hn' hs' h1 h2 h3
    simp only [List.length_cons] at h1 h2 h3
    rw [PS.run_cons]
    exact ih (PS.step_ok hr h o) ht' hn' hs' (by omega) (by omega) (by omega)

/-! ### Appends of packets -/
theorem run_append_none {P : Program} (w : World) (t ty e : TypeId) (i : TypeInfo) (ht : P.underlying t = some (.slice e)) (hi : P.info? e = some i) (base : Option Addr) (n c : Nat) (hc : n ≤ c) (a : Option Addr) (m : Nat) :
    (Builtin.append_ #[t, t] ty #[.slice base n c, .slice a 0 m]).run P w = .ok (.slice base n c) w := by
  have hf : (Builtin.firstCells i.size 0 (.slice a 0 m)).run P w = .ok #[] w := by
    cases a with
    | none => rfl
    | some a => exact run_firstCells_some (P := P) w i.size 0 a 0 m [] (by simp) (by simp)
  cases base with
  | none => simp [Builtin.append_, run_underlying ht, sizeOf, typeInfo, hi, Builtin.lenOf, hf, hc]
  | some b => simp [Builtin.append_, run_underlying ht, sizeOf, typeInfo, hi, Builtin.lenOf, hf, hc, storeCells]

theorem PkAt.news {w : World} {b o : Nat} {y : Pk} (h : PkAt w b o y) (r : Nat) (u : Value) (hr : (pkVals y)[r]? = some u) : w.cell? ⟨b, o + r, none⟩ = some u := by
  match r, hr with
  | 0, hr => simp [pkVals] at hr; subst hr; exact h.c0
  | 1, hr => simp [pkVals] at hr; subst hr; exact h.c1
  | 2, hr => simp [pkVals] at hr; subst hr; exact h.c2
  | r + 3, hr => simp [pkVals] at hr

/-- Packets that are read, at the end of packets of the call's own. -/
theorem run_append_pks {w : World} {base : Nat} {v : Value} {l : List Pk} (hown : PksAt w base v l) {x : Value} {out : List Pk} (hx : PkList w x out) (hlen : l.length + out.length ≤ 1000000000) (hbase : base ≤ w.heap.size) (ty : TypeId) :
    ∃ v' w', (Builtin.append_ #[36, 36] ty #[v, x]).run Try.prog w = .ok v' w' ∧ PksAt w' base v' (l ++ out) ∧ Upd v.ownBlock.toList w w' ∧ (v'.ownBlock = v.ownBlock ∨ ∃ g, v'.ownBlock = some g ∧ w.heap.size ≤ g) := by
  obtain ⟨i0, hi0, hz0, hz1, hz2⟩ := info_parts info31
  obtain ⟨a, m, rfl, hc⟩ := hx
  by_cases ho : out = []
  · subst ho
    have h0 : w.ownsRow base 31 3 v l.length (l.flatMap pkVals) := hown
    have hform : ∃ b c, v = .slice b l.length c ∧ l.length ≤ c := by
      rcases h0.2 with ⟨rfl, hn⟩ | ⟨g, cap, cur, rfl, hb, hg, hn, hc, hs, ht⟩
      · exact ⟨none, 0, by rw [hn], by omega⟩
      · exact ⟨_, cap, rfl, hn⟩
    obtain ⟨b, c, rfl, hlc⟩ := hform
    refine ⟨_, w, run_append_none w 36 ty 31 i0 Try.underlying36 hi0 b l.length c hlc a m, by simpa using hown, Upd.refl _ _, .inl rfl⟩
  · obtain ⟨b, rfl, hat⟩ := hc ho
    have hnews : ∀ j u, (out.flatMap pkVals)[j]? = some u → w.cell? ((⟨b, 0, none⟩ : Addr).add j) = some u := by
      intro j u hj
      rw [Addr.add_lit, Nat.zero_add]
      have hjl : j < out.length * 3 := by rw [← pk3_len]; exact (List.getElem?_eq_some_iff.1 hj).1
      have hq : j / 3 < out.length := by omega
      have hg := pk3_get out (j / 3) (j % 3) hq (Nat.mod_lt _ (by decide))
      have e : j / 3 * 3 + j % 3 = j := by omega
      rw [e, hj] at hg
      have hp := hat (j / 3) hq
      have := hp.news (j % 3) u hg.symm
      rwa [e] at this
    obtain ⟨g, cap, w', h1, h2, h3, h4⟩ := run_append_own2 (P := Try.prog) w base 36 ty 31 i0 _ 3 32 Try.underlying36 hi0 hz0 hz1 hz2 rfl (by decide) v l.length (l.flatMap pkVals) hown ⟨b, 0, none⟩ out.length m (out.flatMap pkVals) (pk3_len out) hnews (fun u hu => pk_one hu) (List.length_pos_iff.2 ho) (by unfold maxLen; omega) (by omega) hbase
    refine ⟨_, w', h1, ?_, (Upd.refl _ _).grown h3 (fun k hk => .inl (by simp [hk])), ?_⟩
    · show w'.ownsRow base 31 3 _ _ _
      rw [List.length_append, List.flatMap_append]
      exact h2
    · rcases h4 with h4 | h4
      · exact .inl h4.symm
      · exact .inr ⟨g, rfl, by omega⟩

theorem wp_append_run' {P : Program} {o : Oper} {a : Act} {w : World} {K : Act → World → Prop} {Q : Exit → Act → World → Prop} (s x : Operand) (t : TypeId)
    (ho : o.op = .call { callee := .builtin .append, args := #[s, x], argTypes := #[t, t] }) (v u : Value) (hs : a.eval s = v) (hx : a.eval x = u) {v' : Value} {w' : World}
    (hr : (Builtin.append_ #[t, t] o.type #[v, u]).run P w = .ok v' w') (h : K (a.put o.dst v') w') : o.wp P a w K Q := by
  unfold Oper.wp execOp
  simp only [ho, resolve, invoke, builtin, Sem.run_bind, Sem.run_pure, Result.andThen_ok, List.map_toArray, List.map_cons, List.map_nil, hs, hx, hr]
  exact h

/-- As one step of a region that draws its order. -/
theorem step_append_pks {ops : Array Oper} {o : Oper} {a : Act} {w : World} {K : Act → World → Prop} {Q : Exit → Act → World → Prop} {E : Prop} (hgd : o.guard = none) (s x : Operand)
    (ho : o.op = .call { callee := .builtin .append, args := #[s, x], argTypes := #[36, 36] }) {base : Nat} {v : Value} {l : List Pk} (hown : Hid (PksAt w base v l)) {u : Value} {out : List Pk} (hxl : Hid (PkList w u out)) (hs : a.eval s = v) (hx : a.eval x = u)
    (hlen : l.length + out.length ≤ 1000000000) (hbase : base ≤ w.heap.size)
    (h : ∀ v' w', Hid (PksAt w' base v' (l ++ out)) → Hid (Upd v.ownBlock.toList w w') → Hid (v'.ownBlock = v.ownBlock ∨ ∃ g, v'.ownBlock = some g ∧ w.heap.size ≤ g) → K (a.put o.dst v') w') :
    if Region.wanted o (yielded ops a.tmps) = true then Oper.wp Try.prog o a w K Q else E := by
  have hw : Region.wanted o (yielded ops a.tmps) = true := by simp [Region.wanted, hgd]
  rw [if_pos hw]
  obtain ⟨v', w', h1, h2, h3, h4⟩ := run_append_pks hown.out hxl.out hlen hbase o.type
  exact wp_append_run' s x 36 ho v u hs hx h1 (h v' w' h2 h3 h4)

/-! ### A network and a book side by side -/
def Both (w0 : World) (f0 : NFoot) (base R : Nat) (w : World) (N : NS) (k : Bk) : Prop :=
  ∃ f b, NetAt w base f N ∧ BookAt w w0.heap.size b k ∧ (∀ j ∈ f.list, j ∉ b.list) ∧ NTurn f0 f w0 w ∧ b.R = R

theorem Both.net {w0 w w' : World} {f0 f f' : NFoot} {b : BFoot} {base : Nat} {N N' : NS} {k : Bk} (h1 : NetAt w base f N) (h2 : BookAt w w0.heap.size b k) (h3 : ∀ j ∈ f.list, j ∉ b.list) (h4 : NTurn f0 f w0 w) (hn : NetAt w' base f' N') (ht : NTurn f f' w w') : Both w0 f0 base b.R w' N' k :=
  ⟨f', b, hn, h2.upd ht.upd (fun j hj hm => h3 j hm hj), fun j hj hm => by
    rcases ht.sub j hj with h | h
    · exact h3 j h hm
    · have := h2.lt j hm; omega, h4.trans ht, rfl⟩
theorem Both.book {w0 w w' : World} {f0 f : NFoot} {b b' : BFoot} {base : Nat} {N : NS} {k k' : Bk} (h1 : NetAt w base f N) (h2 : BookAt w w0.heap.size b k) (h3 : ∀ j ∈ f.list, j ∉ b.list) (h4 : NTurn f0 f w0 w) (hn : BookAt w' w0.heap.size b' k') (ht : BTurn b b' w w') : Both w0 f0 base b.R w' N k' :=
  ⟨f, b', h1.upd ht.upd h3, hn, fun j hj hm => by
    rcases ht.sub j hm with h | h
    · exact h3 j hj h
    · have := h1.lt j hj; omega, ⟨h4.upd.then ht.upd (fun i hi => .inr (h2.ge i hi)), h4.sub, h4.B⟩, ht.R⟩
theorem Both.keep {w0 w w' : World} {f0 : NFoot} {base R : Nat} {N : NS} {k : Bk} (h : Both w0 f0 base R w N k) (hu : Upd [] w w') : Both w0 f0 base R w' N k := by
  obtain ⟨f, b, h1, h2, h3, h4, h5⟩ := h
  exact ⟨f, b, h1.upd hu (by simp), h2.upd hu (by simp), h3, h4.trans (.same hu), h5⟩
theorem Both.size {w0 w : World} {f0 : NFoot} {base R : Nat} {N : NS} {k : Bk} (h : Both w0 f0 base R w N k) : w0.heap.size ≤ w.heap.size := by
  obtain ⟨f, b, h1, h2, h3, h4, h5⟩ := h; exact h4.upd.size
theorem Both.old {w0 w : World} {f0 : NFoot} {base R : Nat} {N : NS} {k : Bk} (h : Both w0 f0 base R w N k) {p : Addr} {u : Value} (hc : w0.cell? p = some u) (hp : p.block ∉ f0.list) : w.cell? p = some u := by
  obtain ⟨f, b, h1, h2, h3, h4, h5⟩ := h; exact h4.upd.cell hc hp

section
variable {w0 w : World} {f0 : NFoot} {base R : Nat} {N : NS} {k : Bk} (h : Both w0 f0 base R w N k) (hw : N.Wf)
include h hw
theorem both_send (hb0 : base ≤ w.heap.size) (ht : N.time ≤ 1000000) (hk : N.number ≤ 1000000) (hfb : N.fates.length ≤ 1000000) (p : Pk) :
    Calls Try.prog 14 #[.pointer (some ⟨f0.B, 0, none⟩), p.val] w fun e w' => e = .returned (.int .i64 (N.send p).2) ∧ Both w0 f0 base R w' (N.send p).1 k := by
  obtain ⟨f, b, h1, h2, h3, h4, rfl⟩ := h
  have := send_any h1 hw hb0 ht hk hfb p
  rw [h4.B] at this
  exact this.mono fun e w' ⟨he, f', hn, hT⟩ => ⟨he, Both.net h1 h2 h3 h4 hn hT⟩
theorem both_recv (i : Nat) (hi : i < N.ways.length) :
    Calls Try.prog 16 #[.pointer (some ⟨f0.B, 0, none⟩), .int .i64 i] w fun e w' => ∃ v, e = .returned (.tuple #[v, .int .i64 0]) ∧ PksAt w' w.heap.size v (N.got i) ∧ Both w0 f0 base R w' (N.recv i) k := by
  obtain ⟨f, b, h1, h2, h3, h4, rfl⟩ := h
  have := recv_any h1 hw.n12 i hi (Nat.le_trans (hw.way_le i) hw.lim) (Nat.le_trans (N.taken_le i) (hw.way_le i)) hw.lim
  rw [h4.B] at this
  exact this.mono fun e w' ⟨v, he, hp, hn, hu⟩ => ⟨v, he, hp, Both.net h1 h2 h3 h4 hn ⟨hu, fun _ hk => .inl hk, rfl⟩⟩
theorem both_bad (x : Int) (hx : N.has x = false) :
    Calls Try.prog 16 #[.pointer (some ⟨f0.B, 0, none⟩), .int .i64 x] w fun e w' => e = .returned (.tuple #[.slice none 0 0, .int .i64 1]) ∧ w = w' := by
  obtain ⟨f, b, h1, h2, h3, h4, rfl⟩ := h
  have := recv_bad h1 hw.n12 x hx
  rwa [h4.B] at this
end
theorem both_step {w0 w : World} {f0 : NFoot} {base R : Nat} {N : NS} {k : Bk} (h : Both w0 f0 base R w N k) (ht : N.time ≤ 1000000) :
    Calls Try.prog 19 #[.pointer (some ⟨f0.B, 0, none⟩)] w fun e w' => e = .returned (.tuple #[]) ∧ Both w0 f0 base R w' N.step k := by
  obtain ⟨f, b, h1, h2, h3, h4, rfl⟩ := h
  have := step_any h1 ht
  rw [h4.B] at this
  exact this.mono fun e w' ⟨he, f', hn, hT⟩ => ⟨he, Both.net h1 h2 h3 h4 hn hT⟩
end Go.Proofs.Ytlmfgdibodpniaa
