/- network.New. -/
import Derived.Test.YtlmfgdibodpniaaRecv
import Derived.Deep.OwnRows
namespace Go.Proofs.Ytlmfgdibodpniaa
open Go.RowKit

/-- A list of fates that came in. -/
structure ArgFates (w : World) (a : Option Addr) (l : List Fa) : Prop where
  len : l.length ≤ maxLen
  cap : a = none → l = []
  at_ : l ≠ [] → ∃ b o, a = some ⟨b, o, none⟩ ∧ FasAt w b o l
theorem ArgFates.upd {w w' : World} {a : Option Addr} {l : List Fa} (h : ArgFates w a l) (hu : Upd [] w w') : ArgFates w' a l :=
  ⟨h.len, h.cap, fun hp => let ⟨b, o, ha, hx⟩ := h.at_ hp; ⟨b, o, ha, hx.upd hu (by simp)⟩⟩

theorem info51 : (Try.prog.info? 51).map (fun i => (i.zero, i.size, i.bytes)) = some (some (.agg #[.bool false, .int .i64 0, .int .i64 0]), 3, 24) := by kernel_rfl

theorem flat3_len (l : List Fa) : (l.flatMap faVals).length = l.length * 3 := by
  induction l with
  | nil => rfl
  | cons a l ih => simp only [List.flatMap_cons, List.length_append, ih, List.length_cons, faVals, List.length_nil]; omega
theorem fa_one {l : List Fa} {u : Value} (h : u ∈ l.flatMap faVals) : u.oneCell' = true := by
  obtain ⟨c, _, hu⟩ := List.mem_flatMap.1 h
  simp only [faVals, List.mem_cons, List.not_mem_nil, or_false] at hu
  rcases hu with rfl | rfl | rfl <;> rfl
theorem FasAt.news {w : World} {b o : Nat} {l : List Fa} (h : FasAt w b o l) : ∀ j u, (l.flatMap faVals)[j]? = some u → w.cell? ((⟨b, o, none⟩ : Addr).add j) = some u := by
  induction l generalizing o with
  | nil => intro j u hj; simp at hj
  | cons x l ih =>
    intro j u hj
    rw [Addr.add_lit]
    have h0 := h 0 (by simp)
    simp only [Nat.zero_mul, Nat.add_zero, List.getElem_cons_zero] at h0
    rw [List.flatMap_cons] at hj
    by_cases h3 : j < 3
    · rw [List.getElem?_append_left (by simpa [faVals] using h3)] at hj
      match j, h3 with
      | 0, _ => simp [faVals] at hj; subst hj; exact h0.c0
      | 1, _ => simp [faVals] at hj; subst hj; exact h0.c1
      | 2, _ => simp [faVals] at hj; subst hj; exact h0.c2
    · rw [List.getElem?_append_right (by simp [faVals]; omega)] at hj
      have := ih h.tail (j - 3) u (by simpa [faVals] using hj)
      rw [Addr.add_lit] at this
      have e : o + 3 + (j - 3) = o + j := by omega
      rwa [e] at this
theorem fasAt_of {w : World} {g o : Nat} {l : List Fa} (h : ∀ j u, (l.flatMap faVals)[j]? = some u → w.cell? ⟨g, o + j, none⟩ = some u) : FasAt w g o l := by
  induction l generalizing o with
  | nil => intro i hi; simp at hi
  | cons x l ih =>
    intro i hi
    cases i with
    | zero =>
      refine ⟨?_, ?_, ?_⟩
      · exact h 0 _ rfl
      · exact h 1 _ rfl
      · exact h 2 _ rfl
    | succ i =>
      have := ih (o := o + 3) (fun j u hj => by
        have := h (3 + j) u (by rw [List.flatMap_cons, List.getElem?_append_right (by simp [faVals])]; simpa [faVals] using hj)
        rwa [← Nat.add_assoc] at this) i (by simpa using hi)
      have e : o + 3 + i * 3 = o + (i + 1) * 3 := by omega
      rw [e] at this
      simpa using this

/-! ### slices.Clone -/
def ClonePost (l : List Fa) (w : World) (e : Ending) (w' : World) : Prop := ∃ v F, e = .returned v ∧ FatesIn w' v l F ∧ (∀ g, F = some g → w.heap.size ≤ g) ∧ Upd [] w w'

set_option maxHeartbeats 1000000 in
theorem clone_none (w : World) : Calls Try.prog 28 #[.slice none 0 0] w (ClonePost [] w) := by
  have q22 : ∀ (w : World) (a : Option Addr) (n c n' c' : Nat), (binOp .eql 22 (.slice a n c) (.slice none n' c')).run Try.prog w = .ok (.bool a.isNone) w := fun w a n c n' c' => Lib.run_eql_slice_nil w _ _ a n c n' c' Try.underlying22
  go_enter Try.func28, Try.ntmps28
  go_wp2
  go_ret
  exact ⟨_, none, rfl, ⟨none, 0, rfl, Nat.le_refl _, .inl ⟨rfl, rfl⟩⟩, by simp, Upd.refl _ _⟩

set_option maxHeartbeats 1000000 in
theorem clone_zero (a : Addr) (cap : Nat) (w : World) : Calls Try.prog 28 #[.slice (some a) 0 cap] w (ClonePost [] w) := by
  have q22 : ∀ (w : World) (a : Option Addr) (n c n' c' : Nat), (binOp .eql 22 (.slice a n c) (.slice none n' c')).run Try.prog w = .ok (.bool a.isNone) w := fun w a n c n' c' => Lib.run_eql_slice_nil w _ _ a n c n' c' Try.underlying22
  go_enter Try.func28, Try.ntmps28
  go_wp2
  go_ret
  exact ⟨_, none, rfl, ⟨_, 0, rfl, Nat.le_refl _, .inl ⟨rfl, rfl⟩⟩, by simp, (Upd.refl _ _).alloc _⟩

set_option maxHeartbeats 1000000 in
theorem clone_some (b o cap : Nat) (l : List Fa) (w : World) (hl : l ≠ []) (h500 : l.length ≤ 1000) (H : FasAt w b o l) : Calls Try.prog 28 #[.slice (some ⟨b, o, none⟩) l.length cap] w (ClonePost l w) := by
  obtain ⟨i0, hi0, hz0, hz1, hz2⟩ := info_parts info51
  have hpos : 0 < l.length := List.length_pos_iff.2 hl
  have HL := Lib.hid hl
  have HH := Lib.hid H
  have HI := Lib.hid hi0
  clear hl H hi0
  have HO : Hid ((w.alloc (.cells #[] 51)).ownsRow w.heap.size 51 3 (.slice (some ⟨w.heap.size, 0, none⟩) 0 0) 0 []) :=
    ⟨rfl, .inr ⟨w.heap.size, 0, #[], rfl, Nat.le_refl _, heap_alloc_new w _, Nat.le_refl _, Nat.zero_le _, rfl, rfl⟩⟩
  have HN : Hid (∀ j u, (l.flatMap faVals)[j]? = some u → (w.alloc (.cells #[] 51)).cell? ((⟨b, o, none⟩ : Addr).add j) = some u) := by
    have hu : Upd [] w (w.alloc (.cells #[] 51)) := (Upd.refl _ _).alloc _
    exact (HH.out.upd hu (by simp)).news
  have q22 : ∀ (w : World) (a : Option Addr) (n c n' c' : Nat), (binOp .eql 22 (.slice a n c) (.slice none n' c')).run Try.prog w = .ok (.bool a.isNone) w := fun w a n c n' c' => Lib.run_eql_slice_nil w _ _ a n c n' c' Try.underlying22
  go_enter Try.func28, Try.ntmps28
  go_wp2_with (at_builtin; refine wpList_append_own2 _ rfl _ _ 22 rfl w.heap.size 51 i0 _ 3 24 Try.underlying22 HI.out hz0 hz1 hz2 rfl (by decide) _ 0 [] rfl HO.out ⟨b, o, none⟩ l.length cap (l.flatMap faVals) rfl (flat3_len l) HN.out (fun u hu => fa_one hu) hpos (by unfold maxLen; omega) (by omega) (by simp) ?_; intro g cp w1 h1 h2 h3; have H1 := Lib.hid h1; have H2 := Lib.hid h2; have H3 := Lib.hid h3; clear h1 h2 h3)
  go_ret
  have h1 := H1.out
  have hu : Upd [] w w1 := ((Upd.refl [] w).alloc _).grown H2.out (fun k hk => .inr (by
    have hk' : some w.heap.size = some k := hk
    obtain rfl : w.heap.size = k := by simpa using hk'
    exact Nat.le_refl _))
  simp only [Nat.zero_add, List.nil_append] at h1
  refine ⟨_, some g, rfl, ⟨_, cp, rfl, ?_, .inr ⟨g, 0, rfl, rfl, HL.out, ?_⟩⟩, ?_, hu⟩
  · rcases h1.2 with ⟨hv, -⟩ | ⟨g', cap', cur, hv, -, -, hn, -⟩
    · simp at hv
    · obtain ⟨-, -, rfl⟩ : (⟨g, 0, none⟩ : Addr) = ⟨g', 0, none⟩ ∧ l.length = l.length ∧ cp = cap' := by simpa using hv
      exact hn
  · refine fasAt_of fun j u hj => ?_
    have := World.ownsRow.cells h1 (g := g) rfl j u hj
    rw [Addr.add_lit] at this
    exact this
  · intro k hk
    obtain rfl : g = k := by simpa using hk
    exact (World.ownsRow.lt h1 g rfl).1

theorem clone_any {w : World} (a : Option Addr) (cap : Nat) (l : List Fa) (H : ArgFates w a l) (hc : a = none → cap = 0) (h500 : l.length ≤ 1000) : Calls Try.prog 28 #[.slice a l.length cap] w (ClonePost l w) := by
  by_cases hl : l = []
  · subst hl
    cases a with
    | none => rw [hc rfl]; exact clone_none w
    | some a => exact clone_zero a cap w
  · obtain ⟨b, o, rfl, hx⟩ := H.at_ hl
    exact clone_some b o cap l w hl h500 hx

/-! ### New -/
theorem info66 : (Try.prog.info? 66).map (fun i => (i.zero, i.size, i.bytes)) = some (some (.slice none 0 0), 1, 24) := by kernel_rfl
def NS.new (n : Nat) (l : List Fa) : NS := ⟨List.replicate n [], l, 0, 0, 0⟩
def rightB (l : List Fa) : Bool := l.all Fa.right

theorem new_net {w w' : World} {B W n : Nat} {fv : Value} {l : List Fa} {F : Option Nat} (hf : FatesIn w' fv l F) (hF : ∀ g, F = some g → w.heap.size ≤ g) (hB : w'.heap[B]? = some (netObj W n fv 0 0 0)) (hW : w'.heap[W]? = some (.cells (List.replicate n (.slice none 0 0)).toArray 66 (0, 0)))
    (hne : B ≠ W) (hFB : ∀ g, F = some g → g ≠ B ∧ g ≠ W) (h1 : w.heap.size ≤ B) (h2 : w.heap.size ≤ W) : NetAt w' w.heap.size ⟨B, W, F, List.replicate n none⟩ (NS.new n l) := by
  refine ⟨⟨hne, hFB, ?_, ?_⟩, ?_, fv, List.replicate n (.slice none 0 0), ?_, hW, by simp [NS.new], ?_, ?_, hf⟩
  · intro g hg; simp [List.mem_replicate] at hg
  · intro i j g hg; simp [List.getElem?_replicate] at hg
  · intro k hk
    rcases NFoot.mem.1 hk with rfl | rfl | hk | hk
    · exact h1
    · exact h2
    · exact hF k hk
    · simp [List.mem_replicate] at hk
  · simpa [NS.new] using hB
  · simp [List.map_replicate, Value.ownBlock]
  · intro i v l' hv hl
    simp only [NS.new, List.getElem?_replicate] at hv hl
    split at hv
    · rw [if_pos (by assumption)] at hl
      obtain rfl : Value.slice none 0 0 = v := by simpa using hv
      obtain rfl : [] = l' := by simpa using hl
      exact Seg.nil _ _ _ _
    · cases hv

def NewPost (n : Nat) (l : List Fa) (w : World) (e : Ending) (w' : World) : Prop := ∃ f : NFoot, e = .returned (.pointer (some ⟨f.B, 0, none⟩)) ∧ NetAt w' w.heap.size f (NS.new n l) ∧ Upd [] w w'

theorem made66 (n : Nat) : madeCells #[.slice none 0 0] n = (List.replicate n (Value.slice none 0 0)).toArray := by
  apply Array.ext'
  apply List.ext_getElem?
  intro i
  by_cases hi : i < n
  · simp [madeCells, hi, Nat.mod_one]
  · simp [madeCells, hi]

theorem new_fin1 {w wr w' : World} {n : Nat} {l : List Fa} {fv : Value} {F : Option Nat} (hu0 : Upd [] w wr) (hf : FatesIn w' fv l F) (hF : ∀ g, F = some g → (wr.alloc (.cells (List.replicate n (.slice none 0 0)).toArray 66)).drew.heap.size ≤ g) (hu : Upd [] (wr.alloc (.cells (List.replicate n (.slice none 0 0)).toArray 66)).drew w') :
    NewPost n l w (.returned (.pointer (some ⟨w'.heap.size, 0, none⟩))) (w'.alloc (netObj wr.heap.size n fv 0 0 0)) := by
  have hz : (wr.alloc (.cells (List.replicate n (.slice none 0 0)).toArray 66)).drew.heap.size = wr.heap.size + 1 := by simp
  have hs0 := hu0.size
  have hs1 := hu.size
  rw [hz] at hs1
  have hU : Upd [] w' (w'.alloc (netObj wr.heap.size n fv 0 0 0)) := (Upd.refl _ _).alloc _
  refine ⟨⟨w'.heap.size, wr.heap.size, F, List.replicate n none⟩, rfl, ?_, ?_⟩
  · refine new_net (hf.upd hU (by simp)) (fun g hg => ?_) ?_ ?_ ?_ ?_ ?_ ?_
    · have := hF g hg; omega
    · exact heap_alloc_new _ _
    · rw [hU.block _ (by omega) (by simp), hu.block _ (by omega) (by simp)]
      exact heap_alloc_new wr _
    · omega
    · intro g hg
      have := hF g hg
      have := hf.lt g hg
      omega
    · omega
    · omega
  · exact ((((hu0.alloc _).drew).trans hu).alloc _)
theorem new_fin2 {w wr w' : World} {n : Nat} {l : List Fa} {fv : Value} {F : Option Nat} (hu0 : Upd [] w wr) (hf : FatesIn w' fv l F) (hF : ∀ g, F = some g → wr.drew.heap.size ≤ g) (hu : Upd [] wr.drew w') :
    NewPost n l w (.returned (.pointer (some ⟨w'.heap.size + 1, 0, none⟩))) ((w'.alloc (.cells (List.replicate n (.slice none 0 0)).toArray 66)).alloc (netObj w'.heap.size n fv 0 0 0)) := by
  have hz : (w'.alloc (.cells (List.replicate n (.slice none 0 0)).toArray 66)).heap.size = w'.heap.size + 1 := by simp
  have hs0 := hu0.size
  have hs1 := hu.size
  have hs2 : wr.drew.heap.size = wr.heap.size := rfl
  have hU1 : Upd [] w' (w'.alloc (.cells (List.replicate n (.slice none 0 0)).toArray 66)) := (Upd.refl _ _).alloc _
  have hU2 : Upd [] (w'.alloc (.cells (List.replicate n (.slice none 0 0)).toArray 66)) ((w'.alloc (.cells (List.replicate n (.slice none 0 0)).toArray 66)).alloc (netObj w'.heap.size n fv 0 0 0)) := (Upd.refl _ _).alloc _
  refine ⟨⟨w'.heap.size + 1, w'.heap.size, F, List.replicate n none⟩, rfl, ?_, ?_⟩
  · refine new_net (hf.upd (hU1.trans hU2) (by simp)) (fun g hg => ?_) ?_ ?_ ?_ ?_ ?_ ?_
    · have := hF g hg; omega
    · rw [← hz]; exact heap_alloc_new _ _
    · rw [hU2.block _ (by omega) (by simp)]
      exact heap_alloc_new w' _
    · omega
    · intro g hg
      have := hf.lt g hg
      omega
    · omega
    · omega
  · exact (((hu0.drew).trans hu).alloc _).alloc _

theorem right_take {l : List Fa} {k : Nat} (hk : k < l.length) (h : (l.take k).all Fa.right = true) (hr : l[k].right = true) : (l.take (k + 1)).all Fa.right = true := by
  rw [List.take_succ_eq_append_getElem hk, List.all_append, h]; simp [hr]
theorem not_right {l : List Fa} {k : Nat} (hk : k < l.length) (hr : l[k].right = false) : rightB l = false := by
  unfold rightB; rw [List.all_eq_false]; exact ⟨l[k], List.getElem_mem hk, by simp [hr]⟩

set_option maxHeartbeats 4000000 in
theorem new_ok {w : World} (n : Nat) (hn : 1 ≤ n) (hn12 : n ≤ 12) (a : Option Addr) (cap : Nat) (l : List Fa) (H : ArgFates w a l) (hc : a = none → cap = 0) (h500 : l.length ≤ 1000) (hr : rightB l = true) :
    Calls Try.prog 12 #[.int .i64 n, .slice a l.length cap] w (NewPost n l w) := by
  have HH := Lib.hid H
  have HC := Lib.hid hc
  have HR : Hid (∀ k, (h : k < l.length) → l[k].right = true) := fun k h => List.all_eq_true.1 hr _ (List.getElem_mem h)
  clear H hc hr
  have hmk := run_make_row' (P := Try.prog) 55 66 (.slice none 0 0) 24 Try.underlying55 info66 rfl .i64 .i64 n (by omega) (by omega)
  rw [made66] at hmk
  go_enter Try.func12, Try.ntmps12
  go_wp2
  go_loopw [15] (fun k wr => ∃ j : Nat, j ≤ l.length ∧ k = .int .i64 j ∧ Hid (Upd [] w wr)) (fun k _ => l.length - (intOf k).toNat)
  case atStart => exact ⟨0, Nat.zero_le _, rfl, Upd.refl _ _⟩
  case round =>
    obtain ⟨j, hj, rfl, hu⟩ := hrel
    by_cases hlt : j < l.length
    · obtain ⟨b, o, ha, hx⟩ := HH.out.at_ (by intro e; rw [e] at hlt; simp at hlt)
      subst ha
      have hf := (hx j hlt).upd hu.out (by simp)
      have hri := HR.out j hlt
      obtain ⟨y, hy⟩ : ∃ y, y = l[j] := ⟨_, rfl⟩
      rw [← hy] at hf hri
      clear hx hy
      obtain ⟨y0, y1, y2⟩ := y
      obtain ⟨g0, g1, g2⟩ := hf
      simp only at g0 g1 g2
      cases y0 with
      | true =>
        clear hri
        go_wp2
        go_roundw
        case rel => exact ⟨j + 1, by omega, by go_num, hu.out.alloc _⟩
        case measure => simp [intOf]; omega
      | false =>
        have hri' : 1 ≤ y1 ∧ y1 ≤ 9 ∧ 0 ≤ y2 ∧ y2 ≤ 100 := by simpa [Fa.right] using hri
        obtain ⟨z1, z2, z3, z4⟩ := hri'
        clear hri
        go_wp2
        go_roundw
        case rel => exact ⟨j + 1, by omega, by go_num, hu.out.alloc _⟩
        case measure => simp [intOf]; omega
    · have HCL : Hid (∀ W, Upd [] w W → Calls Try.prog 28 #[.slice a l.length cap] W (ClonePost l W)) := fun W hW => clone_any a cap l (HH.out.upd hW) HC.out h500
      have HU := Lib.hid hu
      clear hu
      go_wp2_with fail
      go_region_with (go_at_call 28; refine (HCL.out _ (by first | exact (HU.out.alloc _).drew | exact HU.out.drew)).mono ?_; rintro e w' ⟨v, F, rfl, hf, hF, hu⟩; have HF1 := Lib.hid hf; have HF2 := Lib.hid hF; have HF3 := Lib.hid hu; obtain ⟨fa, fc, rfl, -⟩ := hf; clear hF hu)
      all_goals
        go_wp2
        go_ret
        first
          | exact new_fin1 HU.out HF1.out HF2.out HF3.out
          | exact new_fin2 HU.out HF1.out HF2.out HF3.out

set_option maxHeartbeats 400000 in
theorem new_few (n : Int) (hn : n < 1 ∨ 12 < n) (a : Option Addr) (len cap : Nat) (w : World) :
    Calls Try.prog 12 #[.int .i64 n, .slice a len cap] w fun e w' => e = .returned (.pointer none) ∧ w = w' := by
  by_cases h : n < 1
  · go_enter Try.func12, Try.ntmps12
    go_wp2
    go_ret
    exact ⟨rfl, rfl⟩
  · have h2 : 12 < n := by omega
    clear hn
    go_enter Try.func12, Try.ntmps12
    go_wp2
    go_ret
    exact ⟨rfl, rfl⟩

set_option maxHeartbeats 4000000 in
theorem new_wrong {w : World} (n : Nat) (hn : 1 ≤ n) (hn12 : n ≤ 12) (a : Option Addr) (cap : Nat) (l : List Fa) (H : ArgFates w a l) (hr : rightB l = false) :
    Calls Try.prog 12 #[.int .i64 n, .slice a l.length cap] w fun e w' => e = .returned (.pointer none) ∧ Upd [] w w' := by
  have HH := Lib.hid H
  have hlm := H.len
  unfold maxLen at hlm
  have HR := Lib.hid hr
  clear H hr
  go_enter Try.func12, Try.ntmps12
  go_wp2
  go_loopw [15] (fun k wr => ∃ j : Nat, j ≤ l.length ∧ k = .int .i64 j ∧ Hid (Upd [] w wr) ∧ Hid ((l.take j).all Fa.right = true)) (fun k _ => l.length - (intOf k).toNat)
  case atStart => exact ⟨0, Nat.zero_le _, rfl, Upd.refl _ _, by simp [Hid]⟩
  case round =>
    obtain ⟨j, hj, rfl, hu, hall⟩ := hrel
    by_cases hlt : j < l.length
    · obtain ⟨b, o, ha, hx⟩ := HH.out.at_ (by intro e; rw [e] at hlt; simp at hlt)
      subst ha
      have hf := (hx j hlt).upd hu.out (by simp)
      have HRT : Hid (l[j].right = true → (l.take (j + 1)).all Fa.right = true) := fun h => right_take hlt hall.out h
      obtain ⟨y, hy⟩ : ∃ y, y = l[j] := ⟨_, rfl⟩
      rw [← hy] at hf HRT
      clear hx hy
      obtain ⟨y0, y1, y2⟩ := y
      obtain ⟨g0, g1, g2⟩ := hf
      simp only at g0 g1 g2
      cases y0 with
      | true =>
        go_wp2
        go_roundw
        case rel => exact ⟨j + 1, by omega, by go_num, hu.out.alloc _, HRT.out rfl⟩
        case measure => simp [intOf]; omega
      | false =>
        by_cases hri' : 1 ≤ y1 ∧ y1 ≤ 9 ∧ 0 ≤ y2 ∧ y2 ≤ 100
        · have HRI : Hid ((l.take (j + 1)).all Fa.right = true) := HRT.out (by simpa [Fa.right] using hri')
          obtain ⟨z1, z2, z3, z4⟩ := hri'
          go_wp2
          go_roundw
          case rel => exact ⟨j + 1, by omega, by go_num, hu.out.alloc _, HRI.out⟩
          case measure => simp [intOf]; omega
        · have H4 : y1 < 1 ∨ (1 ≤ y1 ∧ 9 < y1) ∨ (1 ≤ y1 ∧ y1 ≤ 9 ∧ y2 < 0) ∨ (1 ≤ y1 ∧ y1 ≤ 9 ∧ 0 ≤ y2 ∧ 100 < y2) := by omega
          clear hri'
          rcases H4 with z1 | ⟨z1, z2⟩ | ⟨z1, z2, z3⟩ | ⟨z1, z2, z3, z4⟩
          all_goals
            go_wp2
            go_ret
            exact ⟨rfl, hu.out.alloc _⟩
    · obtain rfl : j = l.length := by omega
      exfalso
      have h1 := HR.out
      have h2 := hall.out
      rw [List.take_length] at h2
      rw [rightB, h2] at h1
      cases h1

end Go.Proofs.Ytlmfgdibodpniaa
