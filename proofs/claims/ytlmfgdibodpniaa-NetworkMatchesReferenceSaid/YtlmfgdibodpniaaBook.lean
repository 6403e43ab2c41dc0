/- The book that play writes: how it lies in memory. -/
import Derived.Test.YtlmfgdibodpniaaLaw
namespace Go.Proofs.Ytlmfgdibodpniaa
open Go.RowKit

structure Bk where
  sent : List Pk
  got : List (List Pk)

/-- The blocks of a book: the record, the row of houses, the slices. -/
structure BFoot where
  R : Nat
  G : Nat
  S : Option Nat
  L : List (Option Nat)
def BFoot.list (f : BFoot) : List Nat := f.R :: f.G :: (f.S.toList ++ f.L.filterMap id)
theorem BFoot.mem {f : BFoot} {k : Nat} : k ∈ f.list ↔ k = f.R ∨ k = f.G ∨ f.S = some k ∨ some k ∈ f.L := by
  simp [BFoot.list]
structure BFoot.Ok (f : BFoot) : Prop where
  rg : f.R ≠ f.G
  sb : ∀ g : Nat, f.S = some g → g ≠ f.R ∧ g ≠ f.G
  lb : ∀ g : Nat, some g ∈ f.L → g ≠ f.R ∧ g ≠ f.G ∧ f.S ≠ some g
  li : ∀ i j g : Nat, f.L[i]? = some (some g) → f.L[j]? = some (some g) → i = j

def bookObj (sv : Value) (G n : Nat) : Obj := .cells #[sv, .slice (some ⟨G, 0, none⟩) n n] 46 (0, 0)

structure BookAt (w : World) (base : Nat) (b : BFoot) (k : Bk) : Prop where
  ok : b.Ok
  ge : ∀ j ∈ b.list, base ≤ j
  ex : ∃ (sv : Value) (gs : List Value), w.heap[b.R]? = some (bookObj sv b.G k.got.length) ∧ w.heap[b.G]? = some (.cells gs.toArray 36 (0, 0)) ∧ gs.length = k.got.length ∧ b.S = sv.ownBlock ∧ b.L = gs.map Value.ownBlock ∧
    PksAt w base sv k.sent ∧ (∀ (i : Nat) (v : Value) (l : List Pk), gs[i]? = some v → k.got[i]? = some l → PksAt w base v l)

theorem PksAt.lt {w : World} {b : Nat} {v : Value} {l : List Pk} (h : PksAt w b v l) : ∀ k, v.ownBlock = some k → k < w.heap.size := fun k hk => (World.ownsRow.lt h k hk).2

theorem BookAt.lt {w : World} {base : Nat} {b : BFoot} {k : Bk} (h : BookAt w base b k) : ∀ j ∈ b.list, j < w.heap.size := by
  obtain ⟨sv, gs, h1, h2, h3, h4, h5, h6, h7⟩ := h.ex
  intro j hj
  rcases BFoot.mem.1 hj with rfl | rfl | hj | hj
  · exact (Array.getElem?_eq_some_iff.1 h1).1
  · exact (Array.getElem?_eq_some_iff.1 h2).1
  · exact h6.lt j (by rw [← h4]; exact hj)
  · rw [h5] at hj
    obtain ⟨i, v, hv, ho⟩ := own_mem hj
    have hi : i < k.got.length := by rw [← h3]; exact (List.getElem?_eq_some_iff.1 hv).1
    exact (h7 i v _ hv (List.getElem?_eq_getElem hi)).lt j ho

theorem BookAt.upd {w w' : World} {base : Nat} {b : BFoot} {k : Bk} (h : BookAt w base b k) {G : List Nat} (hu : Upd G w w') (hd : ∀ j ∈ b.list, j ∉ G) : BookAt w' base b k := by
  have hb : ∀ j ∈ b.list, w'.heap[j]? = w.heap[j]? := fun j hj => hu.block j (h.lt j hj) (hd j hj)
  obtain ⟨sv, gs, h1, h2, h3, h4, h5, h6, h7⟩ := h.ex
  refine ⟨h.ok, h.ge, sv, gs, ?_, ?_, h3, h4, h5, ?_, ?_⟩
  · rw [hb _ (BFoot.mem.2 (.inl rfl))]; exact h1
  · rw [hb _ (BFoot.mem.2 (.inr (.inl rfl)))]; exact h2
  · exact h6.upd fun j hj => hb j (BFoot.mem.2 (.inr (.inr (.inl (by rw [h4]; exact hj)))))
  · intro i v l hv hl
    refine (h7 i v l hv hl).upd fun j hj => hb j (BFoot.mem.2 (.inr (.inr (.inr ?_))))
    rw [h5, ← hj]
    exact List.mem_map.2 ⟨v, List.mem_of_getElem? hv, rfl⟩

structure BTurn (f f' : BFoot) (w w' : World) : Prop where
  upd : Upd f.list w w'
  sub : ∀ k ∈ f'.list, k ∈ f.list ∨ w.heap.size ≤ k
  R : f'.R = f.R
theorem BTurn.same {f : BFoot} {w w' : World} (h : Upd [] w w') : BTurn f f w w' := ⟨h.mono (by simp), fun _ hk => .inl hk, rfl⟩
theorem BTurn.trans {f g h : BFoot} {a b c : World} (x : BTurn f g a b) (y : BTurn g h b c) : BTurn f h a c :=
  ⟨x.upd.then y.upd x.sub, fun k hk => by
    rcases y.sub k hk with h1 | h1
    · exact x.sub k h1
    · exact .inr (Nat.le_trans x.upd.size h1), y.R.trans x.R⟩

/-- The sent ones' slice has grown, and is stored. -/
theorem BookAt.addSent {w w' : World} {base : Nat} {b : BFoot} {k : Bk} (h : BookAt w base b k) {sv sv' : Value} (hv : w.cell? ⟨b.R, 0, none⟩ = some sv) {l' : List Pk}
    (hs : PksAt w' base sv' l') (hu : Upd sv.ownBlock.toList w w') (hn : sv'.ownBlock = sv.ownBlock ∨ ∃ g, sv'.ownBlock = some g ∧ w.heap.size ≤ g) :
    ∃ b', BookAt (w'.setCell ⟨b.R, 0, none⟩ sv') base b' { k with sent := l' } ∧ BTurn b b' w (w'.setCell ⟨b.R, 0, none⟩ sv') := by
  have hlt := h.lt
  obtain ⟨sv0, gs, h1, h2, h3, h4, h5, h6, h7⟩ := h.ex
  obtain rfl : sv0 = sv := by
    rw [cell_of_row w b.R 0 _ 46 (0, 0) h1] at hv
    simpa using hv
  have hS : ∀ g ∈ sv0.ownBlock.toList, b.S = some g := fun g hg => by rw [h4]; simpa using hg
  have hU : Upd b.list w (w'.setCell ⟨b.R, 0, none⟩ sv') := (hu.mono fun g hg => .inl (BFoot.mem.2 (.inr (.inr (.inl (hS g hg)))))).setCell (.inl (BFoot.mem.2 (.inl rfl))) sv'
  have hnew : ∀ g, sv'.ownBlock = some g → b.S = some g ∨ w.heap.size ≤ g := by
    intro g hg
    rcases hn with hn | ⟨g', hg', hle⟩
    · exact .inl (by rw [h4, ← hn]; exact hg)
    · right
      rw [hg] at hg'
      obtain rfl : g = g' := by simpa using hg'
      exact hle
  have hR' : w'.heap[b.R]? = w.heap[b.R]? := hu.block _ (hlt _ (BFoot.mem.2 (.inl rfl))) (fun hm => (h.ok.sb _ (hS _ hm)).1 rfl)
  have hG' : w'.heap[b.G]? = w.heap[b.G]? := hu.block _ (hlt _ (BFoot.mem.2 (.inr (.inl rfl)))) (fun hm => (h.ok.sb _ (hS _ hm)).2 rfl)
  refine ⟨⟨b.R, b.G, sv'.ownBlock, b.L⟩, ⟨⟨h.ok.rg, ?_, ?_, h.ok.li⟩, ?_, sv', gs, ?_, ?_, h3, rfl, h5, ?_, ?_⟩, hU, ?_, rfl⟩
  · intro g hg
    rcases hnew g hg with hh | hh
    · exact h.ok.sb g hh
    · exact ⟨fun e => by have := hlt g (BFoot.mem.2 (.inl e)); omega, fun e => by have := hlt g (BFoot.mem.2 (.inr (.inl e))); omega⟩
  · intro g hg
    refine ⟨(h.ok.lb g hg).1, (h.ok.lb g hg).2.1, fun e => ?_⟩
    rcases hnew g e with hh | hh
    · exact (h.ok.lb g hg).2.2 hh
    · have := hlt g (BFoot.mem.2 (.inr (.inr (.inr hg)))); omega
  · intro j hj
    rcases BFoot.mem.1 hj with rfl | rfl | hj | hj
    · exact h.ge _ (BFoot.mem.2 (.inl rfl))
    · exact h.ge _ (BFoot.mem.2 (.inr (.inl rfl)))
    · exact hs.ge j hj
    · exact h.ge _ (BFoot.mem.2 (.inr (.inr (.inr hj))))
  · rw [heap_setCell_self (hR'.trans h1)]; simp [bookObj]
  · rw [Below.heap_setCell _ _ _ _ (Ne.symm h.ok.rg), hG']; exact h2
  · refine hs.upd fun j hj => Below.heap_setCell _ _ _ _ ?_
    rcases hnew j hj with hh | hh
    · exact (h.ok.sb j hh).1
    · intro e; have := hlt j (BFoot.mem.2 (.inl e)); omega
  · intro i v l hv' hl
    refine (h7 i v l hv' hl).upd fun j hj => ?_
    have hm : some j ∈ b.L := by rw [h5, ← hj]; exact List.mem_map.2 ⟨v, List.mem_of_getElem? hv', rfl⟩
    rw [Below.heap_setCell _ _ _ _ (h.ok.lb j hm).1]
    refine hu.block _ (hlt j (BFoot.mem.2 (.inr (.inr (.inr hm))))) fun hx => ?_
    exact (h.ok.lb j hm).2.2 (hS j hx)
  · intro j hj
    rcases BFoot.mem.1 hj with rfl | rfl | hj | hj
    · exact .inl (BFoot.mem.2 (.inl rfl))
    · exact .inl (BFoot.mem.2 (.inr (.inl rfl)))
    · rcases hnew j hj with hh | hh
      · exact .inl (BFoot.mem.2 (.inr (.inr (.inl hh))))
      · exact .inr hh
    · exact .inl (BFoot.mem.2 (.inr (.inr (.inr hj))))

/-- A house's slice has grown, and is stored. -/
theorem BookAt.addGot {w w' : World} {base : Nat} {b : BFoot} {k : Bk} (h : BookAt w base b k) (i : Nat) (hi : i < k.got.length) {v v' : Value} (hv : w.cell? ⟨b.G, i, none⟩ = some v) {l' : List Pk}
    (hs : PksAt w' base v' l') (hu : Upd v.ownBlock.toList w w') (hn : v'.ownBlock = v.ownBlock ∨ ∃ g, v'.ownBlock = some g ∧ w.heap.size ≤ g) :
    ∃ b', BookAt (w'.setCell ⟨b.G, i, none⟩ v') base b' { k with got := k.got.set i l' } ∧ BTurn b b' w (w'.setCell ⟨b.G, i, none⟩ v') := by
  have hlt := h.lt
  obtain ⟨sv, gs, h1, h2, h3, h4, h5, h6, h7⟩ := h.ex
  have hvi : gs[i]? = some v := by
    rw [cell_of_row w b.G i _ 36 (0, 0) h2] at hv
    simpa using hv
  have hL : ∀ g, v.ownBlock = some g → some g ∈ b.L := fun g hg => by rw [h5, ← hg]; exact List.mem_map.2 ⟨v, List.mem_of_getElem? hvi, rfl⟩
  have hLi : b.L[i]? = some v.ownBlock := by rw [h5, List.getElem?_map, hvi]; rfl
  have hmemv : ∀ g ∈ v.ownBlock.toList, some g ∈ b.L := fun g hg => hL g (by simpa using hg)
  have hU : Upd b.list w (w'.setCell ⟨b.G, i, none⟩ v') := (hu.mono fun g hg => .inl (BFoot.mem.2 (.inr (.inr (.inr (hmemv g hg)))))).setCell (.inl (BFoot.mem.2 (.inr (.inl rfl)))) v'
  have hR' : w'.heap[b.R]? = w.heap[b.R]? := hu.block _ (hlt _ (BFoot.mem.2 (.inl rfl))) (fun hm => (h.ok.lb _ (hmemv _ hm)).1 rfl)
  have hG' : w'.heap[b.G]? = w.heap[b.G]? := hu.block _ (hlt _ (BFoot.mem.2 (.inr (.inl rfl)))) (fun hm => (h.ok.lb _ (hmemv _ hm)).2.1 rfl)
  have hnew : ∀ g, v'.ownBlock = some g → some g ∈ b.L ∧ v.ownBlock = some g ∨ w.heap.size ≤ g := by
    intro g hg
    rcases hn with hn | ⟨g', hg', hle⟩
    · exact .inl ⟨hL g (by rw [← hn]; exact hg), by rw [← hn]; exact hg⟩
    · right
      rw [hg] at hg'
      obtain rfl : g = g' := by simpa using hg'
      exact hle
  have hnotL : ∀ g, w.heap.size ≤ g → some g ∉ b.L ∧ g ≠ b.R ∧ g ≠ b.G ∧ b.S ≠ some g := by
    intro g hg
    refine ⟨fun hm => ?_, fun e => ?_, fun e => ?_, fun e => ?_⟩
    · have := hlt g (BFoot.mem.2 (.inr (.inr (.inr hm)))); omega
    · have := hlt g (BFoot.mem.2 (.inl e)); omega
    · have := hlt g (BFoot.mem.2 (.inr (.inl e))); omega
    · have := hlt g (BFoot.mem.2 (.inr (.inr (.inl e)))); omega
  have hset : ∀ j x, (b.L.set i v'.ownBlock)[j]? = some x → (j = i ∧ x = v'.ownBlock) ∨ (j ≠ i ∧ b.L[j]? = some x) := by
    intro j x hx
    rw [List.getElem?_set] at hx
    by_cases e : i = j
    · subst e
      rw [if_pos rfl] at hx
      split at hx
      · exact .inl ⟨rfl, by simpa using hx.symm⟩
      · cases hx
    · rw [if_neg e] at hx
      exact .inr ⟨fun e' => e e'.symm, hx⟩
  have hmemset : ∀ g, some g ∈ b.L.set i v'.ownBlock → some g ∈ b.L ∨ w.heap.size ≤ g := by
    intro g hg
    rcases List.mem_or_eq_of_mem_set hg with hg | hg
    · exact .inl hg
    · rcases hnew g hg.symm with h | h
      · exact .inl h.1
      · exact .inr h
  refine ⟨⟨b.R, b.G, b.S, b.L.set i v'.ownBlock⟩, ⟨⟨h.ok.rg, h.ok.sb, ?_, ?_⟩, ?_, sv, gs.set i v', ?_, ?_, by simp [h3], h4, ?_, ?_, ?_⟩, hU, ?_, rfl⟩
  · intro g hg
    rcases hmemset g hg with hg | hg
    · exact h.ok.lb g hg
    · exact (hnotL g hg).2
  · intro j m g hj hm
    rcases hset j _ hj with ⟨rfl, e1⟩ | ⟨n1, e1⟩ <;> rcases hset m _ hm with ⟨rfl, e2⟩ | ⟨n2, e2⟩
    · rfl
    · rcases hnew g e1.symm with hh | hh
      · exact h.ok.li _ _ g (by rw [hLi, hh.2]) e2
      · exact absurd (List.mem_of_getElem? e2) (hnotL g hh).1
    · rcases hnew g e2.symm with hh | hh
      · exact h.ok.li _ _ g e1 (by rw [hLi, hh.2])
      · exact absurd (List.mem_of_getElem? e1) (hnotL g hh).1
    · exact h.ok.li _ _ g e1 e2
  · intro j hj
    rcases BFoot.mem.1 hj with rfl | rfl | hj | hj
    · exact h.ge _ (BFoot.mem.2 (.inl rfl))
    · exact h.ge _ (BFoot.mem.2 (.inr (.inl rfl)))
    · exact h.ge _ (BFoot.mem.2 (.inr (.inr (.inl hj))))
    · rcases List.mem_or_eq_of_mem_set hj with hj | hj
      · exact h.ge _ (BFoot.mem.2 (.inr (.inr (.inr hj))))
      · exact hs.ge j hj.symm
  · rw [Below.heap_setCell _ _ _ _ h.ok.rg, hR']; simpa using h1
  · rw [heap_setCell_self (hG'.trans h2)]; simp
  · rw [h5, List.map_set]
  · refine h6.upd fun j hj => ?_
    have hS : b.S = some j := by rw [h4]; exact hj
    rw [Below.heap_setCell _ _ _ _ (h.ok.sb j hS).2]
    refine hu.block _ (hlt j (BFoot.mem.2 (.inr (.inr (.inl hS))))) fun hm => (h.ok.lb j (hmemv j hm)).2.2 hS
  · intro j u l hj hl
    rw [List.getElem?_set] at hj hl
    by_cases e : i = j
    · subst e
      rw [if_pos rfl, if_pos (by omega)] at hj hl
      simp only [Option.some.injEq] at hj hl
      subst hj; subst hl
      refine hs.upd fun m hm => Below.heap_setCell _ _ _ _ ?_
      rcases hnew m hm with hh | hh
      · exact (h.ok.lb m hh.1).2.1
      · exact (hnotL m hh).2.2.1
    · rw [if_neg e] at hj hl
      refine (h7 j u l hj hl).upd fun m hm => ?_
      have hmem : b.L[j]? = some (some m) := by rw [h5, List.getElem?_map, hj]; simp [hm]
      rw [Below.heap_setCell _ _ _ _ (h.ok.lb m (List.mem_of_getElem? hmem)).2.1]
      refine hu.block _ (hlt m (BFoot.mem.2 (.inr (.inr (.inr (List.mem_of_getElem? hmem)))))) fun hx => ?_
      have : v.ownBlock = some m := by simpa using hx
      exact e (h.ok.li i j m (by rw [hLi, this]) hmem)
  · intro j hj
    rcases BFoot.mem.1 hj with rfl | rfl | hj | hj
    · exact .inl (BFoot.mem.2 (.inl rfl))
    · exact .inl (BFoot.mem.2 (.inr (.inl rfl)))
    · exact .inl (BFoot.mem.2 (.inr (.inr (.inl hj))))
    · rcases hmemset j hj with hj | hj
      · exact .inl (BFoot.mem.2 (.inr (.inr (.inr hj))))
      · exact .inr hj

theorem BookAt.cells {w : World} {base : Nat} {b : BFoot} {k : Bk} (h : BookAt w base b k) : ∃ (sv : Value) (gs : List Value),
    w.cell? ⟨b.R, 0, none⟩ = some sv ∧ w.cell? ⟨b.R, 1, none⟩ = some (.slice (some ⟨b.G, 0, none⟩) k.got.length k.got.length) ∧ (∀ i, w.frozen? ⟨b.R, i, none⟩ = false) ∧ (∀ i, w.frozen? ⟨b.G, i, none⟩ = false) ∧
    gs.length = k.got.length ∧ (∀ (i : Nat) (v : Value), gs[i]? = some v → w.cell? ⟨b.G, i, none⟩ = some v) ∧ PksAt w base sv k.sent ∧ (∀ (i : Nat) (v : Value) (l : List Pk), gs[i]? = some v → k.got[i]? = some l → PksAt w base v l) ∧
    (∀ g, sv.ownBlock = some g → b.S = some g) ∧ (∀ (i : Nat) (v : Value) g, gs[i]? = some v → v.ownBlock = some g → some g ∈ b.L) := by
  obtain ⟨sv, gs, h1, h2, h3, h4, h5, h6, h7⟩ := h.ex
  refine ⟨sv, gs, ?_, ?_, ?_, ?_, h3, ?_, h6, h7, ?_, ?_⟩
  · rw [cell_of_row w b.R 0 _ 46 (0, 0) h1]; rfl
  · rw [cell_of_row w b.R 1 _ 46 (0, 0) h1]; rfl
  · intro i; simp [World.frozen?, h1, bookObj]
  · intro i; simp [World.frozen?, h2]
  · intro i v hv; rw [cell_of_row w b.G i _ 36 (0, 0) h2]; simpa using hv
  · intro g hg; rw [h4]; exact hg
  · intro i v g hv hg; rw [h5, ← hg]; exact List.mem_map.2 ⟨v, List.mem_of_getElem? hv, rfl⟩
end Go.Proofs.Ytlmfgdibodpniaa
