/- (*Network).Send. -/
import Derived.Test.YtlmfgdibodpniaaPure
import Derived.Deep.RegionHeld3
namespace Go.Proofs.Ytlmfgdibodpniaa
open Go.RowKit

theorem NetAt.put {w w' : World} {base : Nat} {f : NFoot} {s : NS} (h : NetAt w base f s) (i : Nat) (hi : i < s.ways.length) {v v' : Value} (hv : w.cell? ⟨f.W, i, none⟩ = some v) {l' : List Cp}
    (hs : Seg w' base 65 5 v' l'.length (l'.flatMap cpVals)) (hu : Upd v.ownBlock.toList w w') (hn : v'.ownBlock = v.ownBlock ∨ ∃ g, v'.ownBlock = some g ∧ w.heap.size ≤ g) :
    ∃ f', NetAt (w'.setCell ⟨f.W, i, none⟩ v') base f' { s with ways := s.ways.set i l' } ∧ NTurn f f' w (w'.setCell ⟨f.W, i, none⟩ v') := by
  have hlt := h.lt
  obtain ⟨fv, vs, h1, h2, h3, h4, h5, h6⟩ := h.ex
  have hvi : vs[i]? = some v := by
    rw [cell_of_row w f.W i _ 66 (0, 0) h2] at hv
    simpa using hv
  have hL : ∀ g, v.ownBlock = some g → some g ∈ f.L := fun g hg => by rw [h4, ← hg]; exact List.mem_map.2 ⟨v, List.mem_of_getElem? hvi, rfl⟩
  have hLi : f.L[i]? = some v.ownBlock := by rw [h4, List.getElem?_map, hvi]; rfl
  have hmemv : ∀ g ∈ v.ownBlock.toList, some g ∈ f.L := fun g hg => hL g (by simpa using hg)
  have hsub : Upd f.list w w' := hu.mono fun g hg => .inl (NFoot.mem.2 (.inr (.inr (.inr (hmemv g hg)))))
  have hU : Upd f.list w (w'.setCell ⟨f.W, i, none⟩ v') := hsub.setCell (.inl (NFoot.mem.2 (.inr (.inl rfl)))) v'
  have hB' : w'.heap[f.B]? = w.heap[f.B]? := hu.block _ (hlt _ (NFoot.mem.2 (.inl rfl))) (fun hm => (h.ok.lb _ (hmemv _ hm)).1 rfl)
  have hW' : w'.heap[f.W]? = w.heap[f.W]? := hu.block _ (hlt _ (NFoot.mem.2 (.inr (.inl rfl)))) (fun hm => (h.ok.lb _ (hmemv _ hm)).2.1 rfl)
  have hnew : ∀ g, v'.ownBlock = some g → some g ∈ f.L ∧ v.ownBlock = some g ∨ w.heap.size ≤ g := by
    intro g hg
    rcases hn with hn | ⟨g', hg', hle⟩
    · exact .inl ⟨hL g (by rw [← hn]; exact hg), by rw [← hn]; exact hg⟩
    · right
      rw [hg] at hg'
      obtain rfl : g = g' := by simpa using hg'
      exact hle
  have hnotL : ∀ g, w.heap.size ≤ g → some g ∉ f.L ∧ g ≠ f.B ∧ g ≠ f.W ∧ f.F ≠ some g := by
    intro g hg
    refine ⟨fun hm => ?_, fun e => ?_, fun e => ?_, fun e => ?_⟩
    · have := hlt g (NFoot.mem.2 (.inr (.inr (.inr hm)))); omega
    · have := hlt g (NFoot.mem.2 (.inl e)); omega
    · have := hlt g (NFoot.mem.2 (.inr (.inl e))); omega
    · have := hlt g (NFoot.mem.2 (.inr (.inr (.inl e)))); omega
  have hset : ∀ j x, (f.L.set i v'.ownBlock)[j]? = some x → (j = i ∧ x = v'.ownBlock) ∨ (j ≠ i ∧ f.L[j]? = some x) := by
    intro j x hx
    rw [List.getElem?_set] at hx
    by_cases e : i = j
    · subst e
      rw [if_pos rfl] at hx
      split at hx
      · exact .inl ⟨rfl, by simpa using hx.symm⟩
      · cases hx
    · rw [if_neg e] at hx
      exact .inr ⟨fun e' => e e'.symm, hx⟩
  have hmemset : ∀ g, some g ∈ f.L.set i v'.ownBlock → some g ∈ f.L ∨ w.heap.size ≤ g := by
    intro g hg
    rcases List.mem_or_eq_of_mem_set hg with hg | hg
    · exact .inl hg
    · rcases hnew g hg.symm with h | h
      · exact .inl h.1
      · exact .inr h
  refine ⟨⟨f.B, f.W, f.F, f.L.set i v'.ownBlock⟩, ⟨⟨h.ok.bw, h.ok.fb, ?_, ?_⟩, ?_, fv, vs.set i v', ?_, ?_, by simp [h3], ?_, ?_, ?_⟩, hU, ?_, rfl⟩
  · intro g hg
    rcases hmemset g hg with hg | hg
    · exact h.ok.lb g hg
    · exact (hnotL g hg).2
  · intro j k g hj hk
    rcases hset j _ hj with ⟨rfl, e1⟩ | ⟨n1, e1⟩ <;> rcases hset k _ hk with ⟨rfl, e2⟩ | ⟨n2, e2⟩
    · rfl
    · rcases hnew g e1.symm with hh | hh
      · exact h.ok.li _ _ g (by rw [hLi, hh.2]) e2
      · exact absurd (List.mem_of_getElem? e2) (hnotL g hh).1
    · rcases hnew g e2.symm with hh | hh
      · exact h.ok.li _ _ g e1 (by rw [hLi, hh.2])
      · exact absurd (List.mem_of_getElem? e1) (hnotL g hh).1
    · exact h.ok.li _ _ g e1 e2
  · intro k hk
    rcases NFoot.mem.1 hk with rfl | rfl | hk | hk
    · exact h.ge _ (NFoot.mem.2 (.inl rfl))
    · exact h.ge _ (NFoot.mem.2 (.inr (.inl rfl)))
    · exact h.ge _ (NFoot.mem.2 (.inr (.inr (.inl hk))))
    · rcases List.mem_or_eq_of_mem_set hk with hk | hk
      · exact h.ge _ (NFoot.mem.2 (.inr (.inr (.inr hk))))
      · exact (hs.lt k hk.symm).1
  · rw [Below.heap_setCell _ _ _ _ h.ok.bw, hB']; simpa using h1
  · rw [heap_setCell_self (hW'.trans h2)]; simp
  · rw [h4, List.map_set]
  · intro j u l hj hl
    rw [List.getElem?_set] at hj hl
    by_cases e : i = j
    · subst e
      rw [if_pos rfl, if_pos (by omega)] at hj hl
      simp only [Option.some.injEq] at hj hl
      subst hj; subst hl
      refine hs.upd fun k hk => Below.heap_setCell _ _ _ _ ?_
      rcases hnew k hk with hh | hh
      · exact (h.ok.lb k hh.1).2.1
      · exact (hnotL k hh).2.2.1
    · rw [if_neg e] at hj hl
      refine (h5 j u l hj hl).upd fun k hk => ?_
      have hmem : f.L[j]? = some (some k) := by rw [h4, List.getElem?_map, hj]; simp [hk]
      rw [Below.heap_setCell _ _ _ _ (h.ok.lb k (List.mem_of_getElem? hmem)).2.1]
      refine hu.block _ (hlt k (NFoot.mem.2 (.inr (.inr (.inr (List.mem_of_getElem? hmem)))))) fun hm => ?_
      have : v.ownBlock = some k := by simpa using hm
      exact e (h.ok.li i j k (by rw [hLi, this]) hmem)
  · refine (h6.upd hu fun k hk hm => ?_).upd (G := [f.W]) ((Upd.refl _ _).setCell (.inl (by simp)) _) fun k hk hm => ?_
    · exact (h.ok.lb k (hmemv k hm)).2.2 hk
    · exact (h.ok.fb k hk).2 (by simpa using hm)
  · intro k hk
    rcases NFoot.mem.1 hk with rfl | rfl | hk | hk
    · exact .inl (NFoot.mem.2 (.inl rfl))
    · exact .inl (NFoot.mem.2 (.inr (.inl rfl)))
    · exact .inl (NFoot.mem.2 (.inr (.inr (.inl hk))))
    · rcases hmemset k hk with hk | hk
      · exact .inl (NFoot.mem.2 (.inr (.inr (.inr hk))))
      · exact .inr hk

/-! ### The search, wherever the way lies -/
set_option maxHeartbeats 400000 in
theorem bsearch_zero (a : Option Addr) (cap : Nat) (x : Cp) (w : World) : Calls Try.prog 31 #[.slice a 0 cap, x.val, .func (.func 32) #[] #[]] w (BsPost 0 w) := by
  obtain ⟨⟨x0, x1, x2⟩, xt, xk⟩ := x
  unfold Cp.val
  simp only
  go_enter Try.func31, Try.ntmps31
  go_wp2_with fail
  refine wp_loop_rounds 1 ?_; rw [rounds_succ]
  go_wp2_with fail
  go_quiet (fail)
  go_wp2
  go_ret2
  exact ⟨_, rfl, ((Upd.refl _ _).alloc _).drewN' _⟩

theorem Seg.cps {w : World} {base : Nat} {a : Option Addr} {cap : Nat} {l : List Cp} (h : Seg w base 65 5 (.slice a l.length cap) l.length (l.flatMap cpVals)) (hl : l ≠ []) :
    ∃ g o, a = some ⟨g, o, none⟩ ∧ ∀ j, (hj : j < l.length) → CpAt w g (o + j * 5) l[j] := by
  have hlp := List.length_pos_iff.2 hl
  rcases h.2 with ⟨hv', hn'⟩ | ⟨g, o, cap', cur, hv', hbg, hg, hnc, hcm, hfit, hpos, hx⟩
  · omega
  · obtain ⟨rfl, -, rfl⟩ : a = some ⟨g, o, none⟩ ∧ l.length = l.length ∧ cap = cap' := by simpa using hv'
    refine ⟨g, o, rfl, fun j hj => ⟨?_, ?_, ?_, ?_, ?_⟩⟩
    · have := h.cells rfl (j * 5 + 0) _ (flat5_get l j 0 hj (by decide)); exact this
    · have := h.cells rfl (j * 5 + 1) _ (flat5_get l j 1 hj (by decide)); rw [← Nat.add_assoc] at this; exact this
    · have := h.cells rfl (j * 5 + 2) _ (flat5_get l j 2 hj (by decide)); rw [← Nat.add_assoc] at this; exact this
    · have := h.cells rfl (j * 5 + 3) _ (flat5_get l j 3 hj (by decide)); rw [← Nat.add_assoc] at this; exact this
    · have := h.cells rfl (j * 5 + 4) _ (flat5_get l j 4 hj (by decide)); rw [← Nat.add_assoc] at this; exact this

theorem bsearch_any {w : World} {base : Nat} {a : Option Addr} {cap : Nat} {l : List Cp} (h : Seg w base 65 5 (.slice a l.length cap) l.length (l.flatMap cpVals)) (hl : l.length ≤ 4000) (x : Cp) (pos : Nat) (hs : Spot l x pos) :
    Calls Try.prog 31 #[.slice a l.length cap, x.val, .func (.func 32) #[] #[]] w (BsPost pos w) := by
  by_cases hn : l = []
  · subst hn
    have h0 : pos = 0 := by have := hs.le; simpa using this
    subst h0
    exact bsearch_zero a cap x w
  · obtain ⟨g, o, rfl, hc⟩ := h.cps hn
    exact bsearch_some g o cap l x w hl hc pos hs

/-- A round of Send in the header: the number and the count have gone up, the copy lies in a new block. -/
theorem round_world {w wr W : World} {base : Nat} {f f' : NFoot} {S : NS} (hN : NetAt wr base f' S) (hT : NTurn f f' w wr) (X : List Value)
    (hW : (((wr.setCell ⟨f.B, 3, none⟩ (.int .i64 ((S.number : Int) + 1))).setCell ⟨f.B, 4, none⟩ (.int .i64 ((S.count : Int) + 1))).alloc (.cells X.toArray 65)).drew = W) :
    NetAt W base f' { S with number := S.number + 1, count := S.count + 1 } ∧ NTurn f f' w W ∧ W.heap[wr.heap.size]? = some (.cells X.toArray 65 (0, 0)) ∧ wr.heap.size ∉ f'.list ∧ wr.heap.size < W.heap.size := by
  have hB := hT.B
  rw [← hB] at hW
  have h1 : NetAt (wr.setCell ⟨f'.B, 3, none⟩ (.int .i64 ((S.number : Int) + 1))) base f' { S with number := S.number + 1 } := hN.head 3 _ rfl rfl (fun fv => by simp [netCells])
  have h2 : NetAt ((wr.setCell ⟨f'.B, 3, none⟩ (.int .i64 ((S.number : Int) + 1))).setCell ⟨f'.B, 4, none⟩ (.int .i64 ((S.count : Int) + 1))) base f' { S with number := S.number + 1, count := S.count + 1 } := h1.head 4 _ rfl rfl (fun fv => by simp [netCells])
  have t1 := NTurn.setB (f := f') wr 3 (.int .i64 ((S.number : Int) + 1))
  have t2 := NTurn.setB (f := f') (wr.setCell ⟨f'.B, 3, none⟩ (.int .i64 ((S.number : Int) + 1))) 4 (.int .i64 ((S.count : Int) + 1))
  have hz : ((wr.setCell ⟨f'.B, 3, none⟩ (.int .i64 ((S.number : Int) + 1))).setCell ⟨f'.B, 4, none⟩ (.int .i64 ((S.count : Int) + 1))).heap.size = wr.heap.size := by simp
  have hu : Upd [] ((wr.setCell ⟨f'.B, 3, none⟩ (.int .i64 ((S.number : Int) + 1))).setCell ⟨f'.B, 4, none⟩ (.int .i64 ((S.count : Int) + 1))) W := by
    rw [← hW]; exact ((Upd.refl _ _).alloc _).drew
  refine ⟨h2.upd hu (by simp), ((hT.trans t1).trans t2).trans (NTurn.same hu), ?_, fun hm => absurd (hN.lt _ hm) (by omega), ?_⟩
  · rw [← hW, ← hz]
    exact heap_alloc_new _ _
  · rw [← hW]; simp

/-! ### The arguments are wrong -/
def SendPost (base : Nat) (f : NFoot) (s : NS) (r : Int) (w : World) (e : Ending) (w' : World) : Prop := e = .returned (.int .i64 r) ∧ NPost base f s w w'

set_option maxHeartbeats 1000000 in
theorem send_arg {w : World} {base : Nat} {f : NFoot} {s : NS} (h : NetAt w base f s) (hw : s.Wf) (p : Pk) (ha : s.arg p = false) :
    Calls Try.prog 14 #[.pointer (some ⟨f.B, 0, none⟩), p.val] w (SendPost base f s 1 w) := by
  have HF : Hid (NPost base f s w (w.alloc (.cells (pkVals p).toArray 31))) := ⟨f, h.upd (G := []) ((Upd.refl _ _).alloc _) (by simp), .same ((Upd.refl _ _).alloc _)⟩
  have HAS : Hid (∀ x b W, s.has x = b → Upd [] w W → Calls Try.prog 30 #[.pointer (some ⟨f.B, 0, none⟩), .int .i64 x] W fun e w' => e = .returned (.bool b) ∧ W = w') := by
    intro x b W hb hu
    rw [← hb]
    exact has_any (h.upd hu (by simp)) hw.n12 x
  obtain ⟨src, dst, body⟩ := p
  simp only [NS.arg] at ha
  unfold Pk.val
  simp only
  unfold pkVals at HF
  simp only at HF
  have HU : Hid (Upd [] w (w.alloc (.cells #[.int .i64 src, .int .i64 dst, .string body] 31))) := (Upd.refl _ _).alloc _
  cases hs : s.has src with
  | false =>
    have HS := Lib.hid hs
    clear h hw ha hs
    go_enter Try.func14, Try.ntmps14
    go_wp2_with (go_at_call 30; refine (HAS.out _ _ _ HS.out HU.out).mono ?_; rintro e w' ⟨rfl, rfl⟩)
    go_ret
    exact ⟨rfl, HF.out⟩
  | true =>
    cases hd : s.has dst with
    | false =>
      have HS := Lib.hid hs
      have HD := Lib.hid hd
      clear h hw ha hs hd
      go_enter Try.func14, Try.ntmps14
      go_wp2_with (go_at_call 30; refine (HAS.out _ _ _ (by first | exact HS.out | exact HD.out) HU.out).mono ?_; rintro e w' ⟨rfl, rfl⟩)
      go_ret
      exact ⟨rfl, HF.out⟩
    | true =>
      have e : src = dst := by simpa [hs, hd] using ha
      subst e
      have HS := Lib.hid hs
      clear h hw ha hs hd
      go_enter Try.func14, Try.ntmps14
      go_wp2_with (go_at_call 30; refine (HAS.out src _ _ HS.out HU.out).mono ?_; rintro e w' ⟨rfl, rfl⟩)
      go_ret
      exact ⟨rfl, HF.out⟩

set_option maxHeartbeats 400000 in
theorem send_nil {w : World} (p : Pk) : Calls Try.prog 14 #[.pointer none, p.val] w fun e w' => e = .returned (.int .i64 1) ∧ Upd [] w w' := by
  obtain ⟨src, dst, body⟩ := p
  unfold Pk.val
  simp only
  go_enter Try.func14, Try.ntmps14
  go_wp2_with (go_at_call 30; refine (has_nil _).mono ?_; rintro e w' ⟨rfl, rfl⟩)
  go_ret
  exact ⟨rfl, (Upd.refl _ _).alloc _⟩

/-- The header's fates, one taken. -/
theorem NetAt.next {w : World} {base : Nat} {f : NFoot} {s : NS} (h : NetAt w base f s) (x : Fa) (l : List Fa) (hf : s.fates = x :: l) (a : Option Addr) (cap : Nat) (hv : w.cell? ⟨f.B, 1, none⟩ = some (.slice a s.fates.length cap)) :
    ∃ f', NetAt (w.setCell ⟨f.B, 1, none⟩ (.slice (if cap = 1 then a else a.map (·.add 3)) l.length (cap - 1))) base f' s.next ∧ NTurn f f' w (w.setCell ⟨f.B, 1, none⟩ (.slice (if cap = 1 then a else a.map (·.add 3)) l.length (cap - 1))) := by
  obtain ⟨fv, vs, h1, h2, h3, h4, h5, h6⟩ := h.ex
  obtain ⟨v', hv'⟩ : ∃ v' : Value, v' = .slice (if cap = 1 then a else a.map (·.add 3)) l.length (cap - 1) := ⟨_, rfl⟩
  rw [← hv']
  have hfv : fv = .slice a s.fates.length cap := by
    rw [cell_of_row w f.B 1 _ 58 (0, 0) h1] at hv
    simpa [netCells] using hv
  have hu : Upd [f.B] w (w.setCell ⟨f.B, 1, none⟩ v') := (Upd.refl _ _).setCell (.inl (by simp)) v'
  have hF : ∃ F', FatesIn (w.setCell ⟨f.B, 1, none⟩ v') v' l F' ∧ (∀ g, F' = some g → f.F = some g) := by
    obtain ⟨a', cap', e, hc, hh⟩ := h6
    rw [hfv] at e
    obtain ⟨rfl, -, rfl⟩ : a = a' ∧ s.fates.length = s.fates.length ∧ cap = cap' := by simpa using e
    rw [hf] at hc hh
    simp only [List.length_cons] at hc
    rcases hh with ⟨hnil, -⟩ | ⟨g, o, rfl, hFg, -, hx⟩
    · cases hnil
    · by_cases hl : l = []
      · exact ⟨none, ⟨_, _, hv', by omega, .inl ⟨hl, rfl⟩⟩, by simp⟩
      · have hlp : 0 < l.length := List.length_pos_iff.2 hl
        refine ⟨some g, ⟨_, _, hv', by omega, .inr ⟨g, o + 3, ?_, rfl, hl, ?_⟩⟩, fun k hk => by rw [hFg, hk]⟩
        · rw [if_neg (by omega)]; simp [Addr.add_lit]
        · refine hx.tail.upd hu fun hm => ?_
          exact (h.ok.fb g hFg).1 (by simpa using hm)
  obtain ⟨F', hF1, hF2⟩ := hF
  refine ⟨⟨f.B, f.W, F', f.L⟩, ⟨⟨h.ok.bw, fun g hg => h.ok.fb g (hF2 g hg), fun g hg => ⟨(h.ok.lb g hg).1, (h.ok.lb g hg).2.1, fun e => (h.ok.lb g hg).2.2 (hF2 g e)⟩, h.ok.li⟩, ?_, v', vs, ?_, ?_, h3, h4, ?_, ?_⟩, ?_, ?_, rfl⟩
  · intro k hk
    rcases NFoot.mem.1 hk with rfl | rfl | hk | hk
    · exact h.ge _ (NFoot.mem.2 (.inl rfl))
    · exact h.ge _ (NFoot.mem.2 (.inr (.inl rfl)))
    · exact h.ge _ (NFoot.mem.2 (.inr (.inr (.inl (hF2 _ hk)))))
    · exact h.ge _ (NFoot.mem.2 (.inr (.inr (.inr hk))))
  · rw [heap_setCell_self h1]; simp [netCells, netObj, NS.next]
  · rw [Below.heap_setCell _ _ _ _ (Ne.symm h.ok.bw)]; exact h2
  · intro i u l' hu' hl'
    refine (h5 i u l' hu' hl').upd fun k hk => Below.heap_setCell _ _ _ _ ?_
    have : some k ∈ f.L := by rw [h4, ← hk]; exact List.mem_map.2 ⟨u, List.mem_of_getElem? hu', rfl⟩
    exact (h.ok.lb k this).1
  · show FatesIn _ _ s.fates.tail F'
    rw [hf]; exact hF1
  · exact hu.mono (by simp [NFoot.mem])
  · intro k hk
    rcases NFoot.mem.1 hk with rfl | rfl | hk | hk
    · exact .inl (NFoot.mem.2 (.inl rfl))
    · exact .inl (NFoot.mem.2 (.inr (.inl rfl)))
    · exact .inl (NFoot.mem.2 (.inr (.inr (.inl (hF2 _ hk)))))
    · exact .inl (NFoot.mem.2 (.inr (.inr (.inr hk))))

theorem row_cells3 {w : World} {b : Nat} {v0 v1 v2 : Value} {t : TypeId} (h : w.heap[b]? = some (.cells #[v0, v1, v2] t (0, 0))) :
    w.cell? ⟨b, 0, none⟩ = some v0 ∧ w.cell? ⟨b, 1, none⟩ = some v1 ∧ w.cell? ⟨b, 2, none⟩ = some v2 ∧ ∀ i, w.frozen? ⟨b, i, none⟩ = false := by
  refine ⟨?_, ?_, ?_, fun i => by simp [World.frozen?, h]⟩
  · rw [cell_of_row w b 0 _ t (0, 0) h]; rfl
  · rw [cell_of_row w b 1 _ t (0, 0) h]; rfl
  · rw [cell_of_row w b 2 _ t (0, 0) h]; rfl

theorem row_cells5 {w : World} {b : Nat} {v0 v1 v2 v3 v4 : Value} {t : TypeId} (h : w.heap[b]? = some (.cells #[v0, v1, v2, v3, v4] t (0, 0))) :
    w.cell? ⟨b, 0, none⟩ = some v0 ∧ w.cell? ⟨b, 1, none⟩ = some v1 ∧ w.cell? ⟨b, 2, none⟩ = some v2 ∧ w.cell? ⟨b, 3, none⟩ = some v3 ∧ w.cell? ⟨b, 4, none⟩ = some v4 := by
  refine ⟨?_, ?_, ?_, ?_, ?_⟩
  · rw [cell_of_row w b 0 _ t (0, 0) h]; rfl
  · rw [cell_of_row w b 1 _ t (0, 0) h]; rfl
  · rw [cell_of_row w b 2 _ t (0, 0) h]; rfl
  · rw [cell_of_row w b 3 _ t (0, 0) h]; rfl
  · rw [cell_of_row w b 4 _ t (0, 0) h]; rfl
def pkObj (src : Int) (dn : Nat) (body : ByteArray) : Obj := .cells #[.int .i64 src, .int .i64 dn, .string body] 31 (0, 0)
def faObj (b : Bool) (c d : Int) : Obj := .cells #[.bool b, .int .i64 c, .int .i64 d] 51 (0, 0)

set_option maxRecDepth 100000 in
set_option maxHeartbeats 4000000 in
theorem send_good {w : World} {base : Nat} {f : NFoot} {s : NS} (h : NetAt w base f s) (hw : s.Wf) (hb0 : base ≤ w.heap.size) (ht : s.time ≤ 1000000) (hk : s.number ≤ 1000000) (hfb : s.fates.length ≤ 1000000) (src : Int) (dn : Nat) (body : ByteArray) (hs : s.has src = true) (hd : dn < s.ways.length) (hne : ¬ src = dn) :
    Calls Try.prog 14 #[.pointer (some ⟨f.B, 0, none⟩), .agg #[.int .i64 src, .int .i64 dn, .string body]] w (SendPost base f (s.send ⟨src, dn, body⟩).1 (s.send ⟨src, dn, body⟩).2 w) := by
  have HAS : Hid (∀ x W, s.has x = true → Upd [] w W → Calls Try.prog 30 #[.pointer (some ⟨f.B, 0, none⟩), .int .i64 x] W fun e w' => e = .returned (.bool true) ∧ W = w') := by
    intro x W hb hu
    have := has_any (h.upd hu (by simp)) hw.n12 x
    rwa [hb] at this
  have HU : Hid (Upd [] w (w.alloc (.cells #[.int .i64 src, .int .i64 dn, .string body] 31))) := (Upd.refl _ _).alloc _
  have hd' : s.has (dn : Int) = true := by simp [NS.has, hd]
  have HS := Lib.hid hs
  have HD := Lib.hid hd'
  have hb : (src == (dn : Int)) = false := by simpa using hne
  have HARG : Hid (s.arg ⟨src, dn, body⟩ = true) := by simp [Hid, NS.arg, hs, hd', hne]
  have hct := hw.lim
  have hdI : (dn : Int) < (s.ways.length : Int) := by omega
  have hBl := h.B_lt
  have HH := Lib.hid h
  have HW := Lib.hid hw
  have hr := NS.fate_right hw
  obtain ⟨y, hy⟩ : ∃ y, y = s.fate := ⟨_, rfl⟩
  have HY := Lib.hid hy
  obtain ⟨mn, hmn⟩ : ∃ mn, mn = s.fate.many := ⟨_, rfl⟩
  have hm9 : mn ≤ 9 := by rw [hmn]; exact Fa.many_le hr
  have HR : Hid (y.right = true) := by rw [hy]; exact hr
  have HMN := Lib.hid hmn
  have HM : Hid (mn = y.many) := by rw [hmn, hy]; rfl
  obtain ⟨fv, vs, c0, c1, c2, c3, c4, hfz, hfw, h1, h2, h3, h4, h5, h6⟩ := h.cells
  obtain ⟨a, cap, rfl, hcl, hh⟩ := h6
  have HFF := Lib.hid hh
  have hgl : ∀ g o, a = some ⟨g, o, none⟩ → s.fates ≠ [] → g < w.heap.size := by
    intro g o ha hne'
    rcases hh with ⟨hnil, -⟩ | ⟨g', o', ha', -, -, hx⟩
    · exact absurd hnil hne'
    · rw [ha] at ha'
      obtain ⟨rfl, rfl⟩ : g = g' ∧ o = o' := by simpa using ha'
      exact (hx 0 (List.length_pos_iff.2 hne')).lt
  have HGL := Lib.hid hgl
  obtain ⟨fl, hfl⟩ : ∃ fl, fl = s.fates.length := ⟨_, rfl⟩
  rw [← hfl] at c1 hcl
  have HFL := Lib.hid hfl
  have HB1 := Lib.hid c1
  have hflm : fl ≤ 1000000 := by rw [hfl]; exact hfb
  clear hfl hfb
  clear h hw hs hd' hne hy hmn hr hh hgl h1 h2 h3 h4 h5 hfw c2 c3
  go_enter Try.func14, Try.ntmps14
  go_upto_if 35 with (go_at_call 30; refine (HAS.out _ _ (by first | exact HS.out | exact HD.out) HU.out).mono ?_; rintro e w' ⟨rfl, rfl⟩)
  go_cut [] (fun wc => Hid (Upd [] w wc ∧ wc.heap[w.heap.size]? = some (pkObj src dn body) ∧ wc.heap[w.heap.size + 1]? = some (faObj y.lost y.copies y.delay)))
  case first =>
    have hz' : (w.alloc (Obj.cells #[Value.int IntKind.i64 src, Value.int IntKind.i64 ↑dn, Value.string body] 31)).heap.size = w.heap.size + 1 := by simp
    cases hF : s.fates with
    | nil =>
      obtain rfl : fl = 0 := by rw [HFL.out, hF]; rfl
      have HY2 : Hid (y = Fa.one) := by
        have := HY.out
        rw [this, NS.fate, hF]; rfl
      clear hF
      go_wp2
      go_meet
      refine ⟨((Upd.refl [] w).alloc (pkObj src dn body)).alloc (faObj false 1 0), ?_, ?_⟩
      · rw [Below.heap_alloc _ _ _ (by rw [hz']; omega)]; exact heap_alloc_new w _
      · rw [HY2.out, ← hz']; exact heap_alloc_new _ _
    | cons x l =>
      obtain ⟨g, o, ha, hx⟩ : ∃ g o, a = some ⟨g, o, none⟩ ∧ FasAt w g o s.fates := by
        rcases HFF.out with ⟨hnil, -⟩ | ⟨g, o, ha, -, -, hx⟩
        · rw [hF] at hnil; cases hnil
        · exact ⟨g, o, ha, hx⟩
      have hgl := HGL.out g o ha (by rw [hF]; simp)
      subst ha
      rw [hF] at hx
      have hl0 : 0 < fl := by rw [HFL.out, hF]; simp
      have hx0 := hx 0 (by simp)
      simp only [Nat.zero_mul, Nat.add_zero, List.getElem_cons_zero] at hx0
      have HY2 : Hid (y = x) := by
        have := HY.out
        rw [this, NS.fate, hF]; rfl
      clear hF hx
      obtain ⟨x0, x1, x2⟩ := x
      obtain ⟨k0, k1, k2⟩ := hx0
      simp only at k0 k1 k2
      have hl1 : decide ((0 : Int) < (fl : Int)) = true := by rw [decide_eq_true_eq]; omega
      have hl2 : (0 : Int) < (fl : Int) := by omega
      go_wp2
      go_meet
      refine ⟨((Upd.refl [] w).alloc (pkObj src dn body)).alloc (faObj x0 x1 x2), ?_, ?_⟩
      · rw [Below.heap_alloc _ _ _ (by rw [hz']; omega)]; exact heap_alloc_new w _
      · rw [HY2.out, ← hz']; exact heap_alloc_new _ _
  case rest =>
    obtain ⟨W0, hW0⟩ : ∃ W0, W0 = wc := ⟨_, rfl⟩
    rw [← hW0] at hcut
    rw [← hW0]
    clear hW0 wc
    have HC1 := hcut
    obtain ⟨hu, hP, hF⟩ := HC1.out
    obtain ⟨f0, f1, f2, fz⟩ := row_cells3 hF
    have hflt : w.heap.size + 1 < W0.heap.size := (Array.getElem?_eq_some_iff.1 hF).1
    have d1 := hu.cell c1 (by simp)
    have d4 := hu.cell c4 (by simp)
    have hBl0 : f.B < W0.heap.size := by omega
    clear hcut hu hP hF c1 c4 c0 hBl
    go_upto_if 43 with fail
    go_cut [] (fun wc => Hid (Upd [] w wc ∧ wc.heap[w.heap.size]? = some (pkObj src dn body) ∧ wc.heap[w.heap.size + 1]? = some (faObj y.lost mn y.delay)))
    case first =>
      obtain ⟨y0, y1, y2⟩ := y
      simp only at f0 f1 f2
      obtain ⟨hu, hP, hF⟩ := HC1.out
      cases y0 with
      | true =>
        have hm0 : mn = 0 := by rw [HM.out]; rfl
        have HK : Hid (Upd [] w (W0.setCell ⟨w.heap.size + 1, 1, none⟩ (.int .i64 0)) ∧ (W0.setCell ⟨w.heap.size + 1, 1, none⟩ (.int .i64 0)).heap[w.heap.size]? = some (pkObj src dn body) ∧ (W0.setCell ⟨w.heap.size + 1, 1, none⟩ (.int .i64 0)).heap[w.heap.size + 1]? = some (faObj true mn y2)) := by
          refine ⟨hu.setCell (.inr (by simp)) _, ?_, ?_⟩
          · rw [Below.heap_setCell _ _ _ _ (by simp)]; exact hP
          · rw [heap_setCell_self hF, hm0]; rfl
        clear hu hP hF hm0
        go_wp2
        go_meet
        exact HK.out
      | false =>
        have hr := HR.out
        have hr' : 1 ≤ y1 ∧ y1 ≤ 9 ∧ 0 ≤ y2 ∧ y2 ≤ 100 := by simpa [Fa.right] using hr
        have HK : Hid (Upd [] w W0 ∧ W0.heap[w.heap.size]? = some (pkObj src dn body) ∧ W0.heap[w.heap.size + 1]? = some (faObj false mn y2)) := by
          refine ⟨hu, hP, ?_⟩
          rw [hF, HM.out]
          have : ((Fa.many ⟨false, y1, y2⟩ : Nat) : Int) = y1 := by simp [Fa.many]; omega
          rw [this]
        clear hu hP hF hr hr'
        go_wp2
        go_meet
        exact HK.out
    case rest =>
      obtain ⟨W2, hW2⟩ : ∃ W2, W2 = wc := ⟨_, rfl⟩
      rw [← hW2] at hcut
      rw [← hW2]
      clear hW2 wc f0 f1 f2 fz d1 d4 hflt hBl0 HC1
      have HC2 := hcut
      obtain ⟨hu, hP, hF⟩ := HC2.out
      obtain ⟨f0, f1, f2, fz⟩ := row_cells3 hF
      obtain ⟨p0, p1, p2, pz⟩ := row_cells3 hP
      have hflt : w.heap.size + 1 < W2.heap.size := (Array.getElem?_eq_some_iff.1 hF).1
      have HN2 : Hid (NetAt W2 base f s) := HH.out.upd hu (by simp)
      have h := HN2.out
      have hBl2 := h.B_lt
      have b1 : W2.cell? ⟨f.B, 1, none⟩ = some (.slice a fl cap) := hu.cell HB1.out (by simp)
      obtain ⟨fv', vs', -, -, -, -, b4, bz, -⟩ := h.cells
      clear h hcut hu hP hF
      by_cases hlim : 4000 < s.count + mn
      · have hd1 : decide ((4000 : Int) < (s.count : Int) + (mn : Int)) = true := by rw [decide_eq_true_eq]; omega
        have hd2 : (4000 : Int) < (s.count : Int) + (mn : Int) := by omega
        go_wp2_with fail
        go_quiet (fail)
        go_wp2
        go_ret
        have HFIN : SendPost base f (s.send ⟨src, dn, body⟩).1 (s.send ⟨src, dn, body⟩).2 w (.returned (.int .i64 3)) (W2.drewN nq) := by
          have hsend : s.send ⟨src, dn, body⟩ = (s, 3) := by
            unfold NS.send
            rw [if_neg (by simpa using HARG.out), if_pos (by rw [← HMN.out]; exact hlim)]
          rw [hsend]
          exact ⟨rfl, f, HN2.out.upd (G := []) (Upd.drewN _ _ _) (by simp), .same (HC2.out.1.trans (Upd.drewN _ _ _))⟩
        exact HFIN
      · have hd1 : decide ((4000 : Int) < (s.count : Int) + (mn : Int)) = false := by rw [decide_eq_false_iff_not]; omega
        have hd2 : (s.count : Int) + (mn : Int) ≤ 4000 := by omega
        go_wp2_with fail
        go_quiet (fail)
        go_upto_if 58 with fail
        go_cut [] (fun wc => Hid (∃ f', NetAt wc base f' s.next ∧ NTurn f f' W2 wc))
        case first =>
          cases hF : s.fates with
          | nil =>
            obtain rfl : fl = 0 := by rw [HFL.out, hF]; rfl
            have HS2 : Hid (s.next = s) := by
              unfold Hid NS.next
              rw [hF]
              cases s
              simp only at hF
              subst hF
              rfl
            clear hF
            go_wp2
            go_meet
            refine ⟨f, ?_, .same (Upd.drewN _ _ _)⟩
            rw [HS2.out]
            exact HN2.out.upd (G := []) (Upd.drewN _ _ _) (by simp)
          | cons x l =>
            have hl0 : 0 < fl := by rw [HFL.out, hF]; simp
            have hll : fl - 1 = l.length := by rw [HFL.out, hF]; simp
            have hl1 : decide ((0 : Int) < (fl : Int)) = true := by rw [decide_eq_true_eq]; omega
            have hl2 : (0 : Int) < (fl : Int) := by omega
            have hl3 : (1 : Int) ≤ (fl : Int) := by omega
            have HNX : Hid (∀ q, ∃ f', NetAt ((W2.drewN q).setCell ⟨f.B, 1, none⟩ (.slice (if cap = 1 then a else a.map (·.add 3)) l.length (cap - 1))) base f' s.next ∧ NTurn f f' W2 ((W2.drewN q).setCell ⟨f.B, 1, none⟩ (.slice (if cap = 1 then a else a.map (·.add 3)) l.length (cap - 1)))) := by
              intro q
              obtain ⟨f', h1, h2⟩ := (HN2.out.upd (G := []) (Upd.drewN _ W2 q) (by simp)).next x l hF a cap (by rw [← HFL.out]; exact b1)
              exact ⟨f', h1, (NTurn.same (Upd.drewN _ _ _)).trans h2⟩
            obtain ⟨g, o, ha⟩ : ∃ g o, a = some ⟨g, o, none⟩ := by
              rcases HFF.out with ⟨hnil, -⟩ | ⟨g, o, ha, -⟩
              · rw [hF] at hnil; cases hnil
              · exact ⟨g, o, ha⟩
            clear hF
            subst ha
            by_cases hcap : cap = 1
            · subst hcap
              have HNX2 := HNX.out (q := nq)
              simp only [if_true] at HNX2
              have HK := Lib.hid HNX2
              clear HNX HNX2
              go_wp2
              go_meet
              exact HK.out
            · have HNX2 := HNX.out (q := nq)
              simp only [if_neg hcap, Option.map_some, Addr.add_lit] at HNX2
              have HK := Lib.hid HNX2
              clear HNX HNX2
              go_wp2
              go_meet
              exact HK.out
        case rest =>
          obtain ⟨W3, hW3⟩ : ∃ W3, W3 = wc := ⟨_, rfl⟩
          rw [← hW3] at hcut
          rw [← hW3]
          obtain ⟨fN, hN3, hT3⟩ := hcut.out
          have HT3 := Lib.hid hT3
          have HN3 := Lib.hid hN3
          have hPf : w.heap.size ∉ f.list := fun hm => absurd (HH.out.lt _ hm) (by omega)
          have hFf : w.heap.size + 1 ∉ f.list := fun hm => absurd (HH.out.lt _ hm) (by omega)
          have HPF := Lib.hid hPf
          have HFF2 := Lib.hid hFf
          have q1 := hT3.upd.cell f1 hFf
          have P0 := Lib.hid p0
          have P1 := Lib.hid p1
          have P2 := Lib.hid p2
          have F2 := Lib.hid f2
          clear hW3 wc hcut hT3 hN3 hPf hFf f0 f1 f2 fz p0 p1 p2 pz b1 b4 bz hBl2
          have HB := Lib.hid HT3.out.B
          go_wp2_with fail
          go_loopw [69] (fun i wr => ∃ k : Nat, k ≤ mn ∧ i = .int .i64 k ∧ Hid (∃ f', NetAt wr base f' (s.next.putN ⟨src, dn, body⟩ (s.time + s.fate.delay.toNat) k) ∧ NTurn f f' W2 wr)) (fun i _ => mn - (intOf i).toNat)
          case atStart => exact ⟨0, Nat.zero_le _, rfl, fN, HN3.out, HT3.out⟩
          case round =>
            obtain ⟨k, hkm, rfl, hrr⟩ := hrel
            by_cases hlt : k < mn
            · obtain ⟨f', hN, hT⟩ := hrr.out
              have hlost : y.lost = false := by
                cases hy0 : y.lost with
                | false => rfl
                | true => have := HM.out; simp [Fa.many, hy0] at this; omega
              have hr := HR.out
              simp only [Fa.right, hlost, Bool.false_or, decide_eq_true_eq] at hr
              obtain ⟨de, hde⟩ := Int.eq_ofNat_of_zero_le hr.2.2.1
              have hde100 : de ≤ 100 := by omega
              obtain ⟨t, ht2⟩ : ∃ t, t = s.time + de := ⟨_, rfl⟩
              have htt : s.time + s.fate.delay.toNat = t := by rw [← HY.out, hde, ht2]; simp
              have HTT := Lib.hid htt
              rw [htt] at hN
              have htI : (s.time : Int) + (de : Int) = (t : Int) := by omega
              obtain ⟨S, hS⟩ : ∃ S, S = s.next.putN ⟨src, dn, body⟩ t k := ⟨_, rfl⟩
              rw [← hS] at hN
              have HS2 := Lib.hid hS
              have hSt : S.time = s.time := by rw [hS, putN_time]; rfl
              have hSn : S.number ≤ 1000010 := by rw [hS, putN_number]; show s.number + k ≤ _; omega
              have hSc : S.count < 4000 := by rw [hS, putN_count]; show s.count + k < _; omega
              have hSl : S.ways.length = s.ways.length := by rw [hS, putN_ways_len]; rfl
              have hSW : S.Wf := by rw [hS]; exact putN_wf (next_wf HW.out) _ _ (by show ((dn : Int)).toNat < s.ways.length; simpa using hd) k (by show s.count + k ≤ 4000; omega)
              have HSW := Lib.hid hSW
              have HN := Lib.hid hN
              have HT := Lib.hid hT
              obtain ⟨fv2, vs2, c0, c1, c2, c3, c4, cz, czw, -⟩ := hN.cells
              have p0 := hT.upd.cell P0.out HPF.out
              have p1 := hT.upd.cell P1.out HPF.out
              have p2 := hT.upd.cell P2.out HPF.out
              have d2 := hT.upd.cell F2.out HFF2.out
              rw [hde] at d2
              rw [hSt] at c2
              have hbl := hN.B_lt
              rw [hT.B] at c0 c1 c2 c3 c4 cz hbl
              have hplt := World.block_lt_of_cell? wr _ p0
              simp only at hplt
              clear hN hT hS hSt hSW htt ht2 hrr hde hr hlost q1
              go_wp2_with fail
              have n0 := World.new_ne wr _ p0
              have n1 := World.new_ne wr _ c0
              have n2 := World.new_ne wr _ d2
              go_region_held3 (fun w' => w'.cell? ⟨w.heap.size, 0, none⟩ = some (.int .i64 src) ∧ w'.cell? ⟨w.heap.size, 1, none⟩ = some (.int .i64 dn) ∧ w'.cell? ⟨w.heap.size, 2, none⟩ = some (.string body) ∧
                  w'.cell? ⟨f.B, 2, none⟩ = some (.int .i64 s.time) ∧ w'.cell? ⟨f.B, 3, none⟩ = some (.int .i64 S.number) ∧ w'.cell? ⟨w.heap.size + 1, 2, none⟩ = some (.int .i64 de)) (go_keep) (fail)
              go_wp2_with fail
              generalize hW : (((wr.setCell ⟨f.B, 3, none⟩ (Value.int IntKind.i64 (S.number + 1))).setCell ⟨f.B, 4, none⟩ (Value.int IntKind.i64 (S.count + 1))).alloc (Obj.cells #[Value.int IntKind.i64 src, Value.int IntKind.i64 dn, Value.string body, Value.int IntKind.i64 t, Value.int IntKind.i64 S.number] 65)).drew = W4
              obtain ⟨r1, r2, r3, r4, r5⟩ := round_world HN.out HT.out [.int .i64 src, .int .i64 dn, .string body, .int .i64 t, .int .i64 S.number] hW
              have HN4 := Lib.hid r1
              have HT4 := Lib.hid r2
              have HX4 := Lib.hid r3
              have HX5 := Lib.hid r4
              obtain ⟨X, hX⟩ : ∃ X, X = wr.heap.size := ⟨_, rfl⟩
              rw [← hX] at HX4 HX5 r5
              rw [← hX]
              have HXX := Lib.hid hX
              obtain ⟨fv4, vs4, c0, c1, c2, c3, c4, cz, czw, k1, k2, k3, k4, k5, k6⟩ := r1.cells
              clear hX hW r1 r2 r3 r4 p0 p1 p2 d2 n0 n1 n2 c1 c2 c3 c4 k1 k6 hbl hplt
              have hB4 : f'.B = f.B := HT4.out.B
              rw [hB4] at c0
              simp only at c0 k3 k5
              rw [hSl] at c0 k3
              have hdS : dn < S.ways.length := by omega
              obtain ⟨l, hl⟩ : ∃ l, l = S.way dn := ⟨_, rfl⟩
              have hvl : dn < vs4.length := by omega
              obtain ⟨v, hv⟩ : ∃ v, vs4[dn]? = some v := ⟨_, List.getElem?_eq_getElem hvl⟩
              have hSl2 : S.ways[dn]? = some l := by rw [hl]; exact NS.way_get hdS
              have hseg := k5 dn v l hv hSl2
              have hcw : W4.cell? ⟨f'.W, dn, none⟩ = some v := by rw [cell_of_row W4 f'.W dn _ 66 (0, 0) k2]; simpa using hv
              have hvL : ∀ g, v.ownBlock = some g → some g ∈ f'.L := fun g hg => by rw [k4, ← hg]; exact List.mem_map.2 ⟨v, List.mem_of_getElem? hv, rfl⟩
              obtain ⟨x, hx⟩ : ∃ x : Cp, x = ⟨⟨src, dn, body⟩, t, S.number⟩ := ⟨_, rfl⟩
              have hspot : Spot l x (posC l t) := by
                have := spot_of (l := l) (x := x) (by rw [hl]; exact HSW.out.srt _ (NS.way_mem hdS)) (by rw [hl, hx]; exact HSW.out.num _ (NS.way_mem hdS))
                rw [hx] at this ⊢; exact this
              have hl4 : l.length < 4000 := by rw [hl]; have := HSW.out.way_le dn; omega
              have hxv : x.val = .agg #[.int .i64 src, .int .i64 dn, .string body, .int .i64 t, .int .i64 S.number] := by rw [hx]; rfl
              have hxc : (cpVals x).toArray = #[.int .i64 src, .int .i64 dn, .string body, .int .i64 t, .int .i64 S.number] := by rw [hx]; rfl
              have hxt : x.t = t := by rw [hx]
              obtain ⟨a2, cap2, rfl, z1, z2, z3⟩ := hseg.form
              have HSG : Hid (∀ W, Upd [] W4 W → Seg W base 65 5 (.slice a2 l.length cap2) l.length (l.flatMap cpVals)) := fun W hW => hseg.upd fun k hk => hW.block k ((hseg.lt k hk).2) (by simp)
              have HBS : Hid (∀ W, Upd [] W4 W → Calls Try.prog 31 #[.slice a2 l.length cap2, .agg #[.int .i64 src, .int .i64 dn, .string body, .int .i64 t, .int .i64 S.number], .func (.func 32) #[] #[]] W (BsPost (posC l t) W)) := by
                intro W hW
                have := bsearch_any (HSG.out W hW) (by omega) x (posC l t) hspot
                rwa [hxv] at this
              have hW4b : base ≤ W4.heap.size := by have := HC2.out.1.size; have := HT4.out.upd.size; omega
              have HINS : Hid (∀ W Y, Upd [] W4 W → W.heap[Y]? = some (.cells #[.int .i64 src, .int .i64 dn, .string body, .int .i64 t, .int .i64 S.number] 65 (0, 0)) → W4.heap.size ≤ Y → Calls Try.prog 35 #[.slice a2 l.length cap2, .int .i64 (posC l t), .slice (some ⟨Y, 0, none⟩) 1 1] W (InsPost W base (.slice a2 l.length cap2) (insC l x))) := by
                intro W Y hW hY hYs
                have := insert_any (HSG.out W hW) hl4 (Nat.le_trans hW4b hW.size) (posC l t) hspot.le Y x (by rw [hxc]; exact hY) (fun e => by have := (hseg.lt Y e).2; omega)
                rw [insC, hxt]
                exact this
              have HPOST : Hid (∀ W w' v', Upd [] W4 W → Seg w' base 65 5 v' (insC l x).length ((insC l x).flatMap cpVals) → Upd (Value.slice a2 l.length cap2).ownBlock.toList W w' → (v'.ownBlock = (Value.slice a2 l.length cap2).ownBlock ∨ ∃ g, v'.ownBlock = some g ∧ W.heap.size ≤ g) →
                  ∃ f'', NetAt (w'.setCell ⟨f'.W, dn, none⟩ v') base f'' (s.next.putN ⟨src, dn, body⟩ (s.time + s.fate.delay.toNat) (k + 1)) ∧ NTurn f f'' W2 (w'.setCell ⟨f'.W, dn, none⟩ v')) := by
                intro W w' v' hW h1 h2 h3
                obtain ⟨f'', y1, y2⟩ := (HN4.out.upd hW (by simp)).put dn (by simpa using hdS) (hW.cell hcw (by simp)) h1 h2 h3
                refine ⟨f'', ?_, (HT4.out.trans (NTurn.same hW)).trans y2⟩
                have e : s.next.putN ⟨src, dn, body⟩ (s.time + s.fate.delay.toNat) (k + 1) = { S with ways := S.ways.set dn (insC l x), number := S.number + 1, count := S.count + 1 } := by
                  rw [HTT.out, NS.putN, ← HS2.out]
                  unfold NS.put
                  simp [hl, hx]
                rw [e]; exact y1
              have HKP : Hid (∀ (W w' : World) (b o : Nat) (u : Value), Upd (Value.slice a2 l.length cap2).ownBlock.toList W w' → W.cell? ⟨b, o, none⟩ = some u → (b = f.B ∨ b = w.heap.size ∨ b = X ∨ b = f'.W) → w'.cell? ⟨b, o, none⟩ = some u ∧ w'.frozen? ⟨b, o, none⟩ = W.frozen? ⟨b, o, none⟩) := by
                intro W w' b o u hu hc hb
                have hnb : b ∉ (Value.slice a2 l.length cap2).ownBlock.toList := by
                  intro hm
                  have hm := hvL b (by simpa using hm)
                  have hmem : b ∈ f'.list := NFoot.mem.2 (.inr (.inr (.inr hm)))
                  rcases hb with rfl | rfl | rfl | rfl
                  · exact (HN4.out.ok.lb _ hm).1 HT4.out.B.symm
                  · rcases HT4.out.sub _ hmem with h | h
                    · exact HPF.out h
                    · have := HC2.out; have := (Array.getElem?_eq_some_iff.1 this.2.1).1; omega
                  · exact HX5.out hmem
                  · exact (HN4.out.ok.lb _ hm).2.1 rfl
                exact ⟨hu.cell hc hnb, hu.frozen (World.block_lt_of_cell? W _ hc) hnb⟩
              have p1 := HT4.out.upd.cell P1.out HPF.out
              have HLP : Hid (l.length < 4000 ∧ posC l t ≤ l.length) := ⟨hl4, hspot.le⟩
              have HCW := Lib.hid hcw
              have HZW : Hid (∀ i, W4.frozen? ⟨f'.W, i, none⟩ = false) := czw
              obtain ⟨pc, hpc⟩ : ∃ pc, pc = posC l t := ⟨_, rfl⟩
              rw [← hpc] at HBS HINS HLP
              have hpc4 : pc ≤ 4000 := by have := HLP.out; omega
              clear hpc hseg hspot hxv hxc hxt hvL hv hSl2 hvl k2 k3 k4 k5 z3 hx hl czw
              have hll4 : l.length ≤ 4000 := by omega
              obtain ⟨x0, x1, x2, x3, x4⟩ := row_cells5 HX4.out
              go_wp2_with fail
              go_quiet (fail)
              go_wp2_with (go_at_call 31; refine (HBS.out _ (Upd.drewN _ _ _)).mono ?_; rintro e w5 ⟨r, rfl, hu5⟩; have HU5 : Hid (Upd [] W4 w5) := (Upd.drewN _ _ _).trans hu5; have y0 := HU5.out.cell x0 (by simp); have y1 := HU5.out.cell x1 (by simp); have y2 := HU5.out.cell x2 (by simp); have y3 := HU5.out.cell x3 (by simp); have y4 := HU5.out.cell x4 (by simp); have d0 := HU5.out.cell c0 (by simp); have d1 := HU5.out.cell p1 (by simp); have dw := HU5.out.cell hcw (by simp); have hz5 := HU5.out.size; clear hu5 x0 x1 x2 x3 x4 c0 p1 hcw)
              have hfw5 : w5.frozen? ⟨f'.W, dn, none⟩ = false := (HU5.out.frozen (World.block_lt_of_cell? W4 _ HCW.out) (by simp)).trans (HZW.out dn)
              have n0 := World.new_ne w5 _ y0
              have n1 := World.new_ne w5 _ d0
              have n2 := World.new_ne w5 _ d1
              have n3 := World.new_ne w5 _ dw
              have HPL : Hid (w.heap.size ∉ f'.list) := fun hm => by
                rcases HT4.out.sub _ hm with h | h
                · exact HPF.out h
                · have := HC2.out; have := (Array.getElem?_eq_some_iff.1 this.2.1).1; omega
              have m1 : ¬ f.B = f'.W := fun e => HN4.out.ok.bw (HT4.out.B.trans e)
              have m1' : ¬ f'.W = f.B := fun e => m1 e.symm
              have m2 : ¬ w.heap.size = f'.W := fun e => HPL.out (NFoot.mem.2 (.inr (.inl e)))
              have m2' : ¬ f'.W = w.heap.size := fun e => m2 e.symm
              have m3 : ¬ X = f'.W := fun e => HX5.out (NFoot.mem.2 (.inr (.inl e)))
              have m3' : ¬ f'.W = X := fun e => m3 e.symm
              have HDW := Lib.hid dw
              have HFW := Lib.hid hfw5
              have hW5 : ∀ o, Upd [] w5 ((w5.alloc o).drew) := fun o => ((Upd.refl _ _).alloc o).drew
              have HW5 := Lib.hid hW5
              clear hW5
              go_region_held3 (fun w' => w'.cell? ⟨f.B, 0, none⟩ = some (.slice (some ⟨f'.W, 0, none⟩) s.ways.length s.ways.length) ∧ w'.cell? ⟨w.heap.size, 1, none⟩ = some (.int .i64 dn) ∧ w'.cell? ⟨X, 0, none⟩ = some (.int .i64 src) ∧ w'.cell? ⟨X, 1, none⟩ = some (.int .i64 dn) ∧
                  w'.cell? ⟨X, 2, none⟩ = some (.string body) ∧ w'.cell? ⟨X, 3, none⟩ = some (.int .i64 t) ∧ w'.cell? ⟨X, 4, none⟩ = some (.int .i64 S.number)) (first | go_keep | (exact ⟨j0, j1, j2, j3, j4, j5, j6⟩))
                  (first | (go_at_call 35; refine (HINS.out _ _ (HU5.out.trans (HW5.out _)) (heap_alloc_new w5 _) hz5).mono ?_; rintro e w6 ⟨v', rfl, hs6, hu6, hn6⟩; have j0 := (HKP.out _ w6 _ _ _ hu6 ((HW5.out _).cell d0 (by simp)) (.inl rfl)).1; have j1 := (HKP.out _ w6 _ _ _ hu6 ((HW5.out _).cell d1 (by simp)) (.inr (.inl rfl))).1; have j2 := (HKP.out _ w6 _ _ _ hu6 ((HW5.out _).cell y0 (by simp)) (.inr (.inr (.inl rfl)))).1; have j3 := (HKP.out _ w6 _ _ _ hu6 ((HW5.out _).cell y1 (by simp)) (.inr (.inr (.inl rfl)))).1; have j4 := (HKP.out _ w6 _ _ _ hu6 ((HW5.out _).cell y2 (by simp)) (.inr (.inr (.inl rfl)))).1; have j5 := (HKP.out _ w6 _ _ _ hu6 ((HW5.out _).cell y3 (by simp)) (.inr (.inr (.inl rfl)))).1; have j6 := (HKP.out _ w6 _ _ _ hu6 ((HW5.out _).cell y4 (by simp)) (.inr (.inr (.inl rfl)))).1; have jw := (HKP.out _ w6 _ _ _ hu6 ((HW5.out _).cell HDW.out (by simp)) (.inr (.inr (.inr rfl)))).1; have jz := (HKP.out _ w6 _ _ _ hu6 ((HW5.out _).cell HDW.out (by simp)) (.inr (.inr (.inr rfl)))).2; rw [(HW5.out _).frozen (World.block_lt_of_cell? w5 _ HDW.out) (by simp), HFW.out] at jz; have HP6 := Lib.hid (HPOST.out _ w6 v' (HU5.out.trans (HW5.out _)) hs6 hu6 hn6); obtain ⟨a6, cap6, rfl, -⟩ := hs6.form; clear hu6 hn6 hs6))
              go_wp2_with fail
              exact ⟨⟨k + 1, by omega, by go_num, HP6.out⟩, by simp [intOf]; omega⟩
            · obtain rfl : k = mn := by omega
              have HFIN : Hid (SendPost base f (s.send ⟨src, dn, body⟩).1 (s.send ⟨src, dn, body⟩).2 w (.returned (.int .i64 0)) wr) := by
                obtain ⟨f', hN, hT⟩ := hrr.out
                have hsend : s.send ⟨src, dn, body⟩ = (s.next.putN ⟨src, dn, body⟩ (s.time + s.fate.delay.toNat) k, 0) := by
                  unfold NS.send
                  rw [if_neg (by simpa using HARG.out), if_neg (by rw [← HMN.out]; exact hlim), ← HMN.out]
                rw [hsend]
                exact ⟨rfl, f', hN, (NTurn.same HC2.out.1).trans hT⟩
              clear hrr
              go_wp2
              go_ret
              exact HFIN.out

theorem send_any {w : World} {base : Nat} {f : NFoot} {s : NS} (h : NetAt w base f s) (hw : s.Wf) (hb0 : base ≤ w.heap.size) (ht : s.time ≤ 1000000) (hk : s.number ≤ 1000000) (hfb : s.fates.length ≤ 1000000) (p : Pk) :
    Calls Try.prog 14 #[.pointer (some ⟨f.B, 0, none⟩), p.val] w (SendPost base f (s.send p).1 (s.send p).2 w) := by
  by_cases ha : s.arg p = false
  · have : s.send p = (s, 1) := by unfold NS.send; rw [if_pos ha]
    rw [this]
    exact send_arg h hw p ha
  · have ha : s.arg p = true := by simpa using ha
    have ha' := ha
    obtain ⟨src, dst, body⟩ := p
    simp only [NS.arg, Bool.and_eq_true, decide_eq_true_eq] at ha
    obtain ⟨⟨hs, hd⟩, hne⟩ := ha
    have hd2 := has_lt hd
    have hd3 : 0 ≤ dst := by simp only [NS.has, decide_eq_true_eq] at hd; omega
    obtain ⟨dn, rfl⟩ := Int.eq_ofNat_of_zero_le hd3
    exact send_good h hw hb0 ht hk hfb src dn body hs (by simpa using hd2) hne
end Go.Proofs.Ytlmfgdibodpniaa
