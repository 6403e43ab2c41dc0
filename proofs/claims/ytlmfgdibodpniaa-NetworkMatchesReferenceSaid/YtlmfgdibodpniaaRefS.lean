/- The reference network, walked: Send. -/
import Derived.Test.YtlmfgdibodpniaaRefN
namespace Go.Proofs.Ytlmfgdibodpniaa
open Go.RowKit

def pbox (s d : Int) (b : ByteArray) : Obj := .cells #[.int .i64 s, .int .i64 d, .string b] 31 (0, 0)
def RSendPost (base : Nat) (f : RFoot) (r : RS) (x : Int) (w : World) (e : Ending) (w' : World) : Prop := e = .returned (.int .i64 x) ∧ RPost base f r w w'

set_option maxHeartbeats 1000000 in
theorem rsend_arg {w : World} {base : Nat} {f : RFoot} {r : RS} (h : RefAt w base f r) (p : Pk) (ha : r.arg p = false) :
    Calls Try.prog 15 #[.pointer (some ⟨f.B, 0, none⟩), p.val] w (RSendPost base f r 1 w) := by
  have HF : Hid (RPost base f r w (w.alloc (.cells (pkVals p).toArray 31))) := ⟨f, h.upd (G := []) ((Upd.refl _ _).alloc _) (by simp), .same ((Upd.refl _ _).alloc _)⟩
  have HAS : Hid (∀ x b W, r.has x = b → Upd [] w W → Calls Try.prog 36 #[.pointer (some ⟨f.B, 0, none⟩), .int .i64 x] W fun e w' => e = .returned (.bool b) ∧ W = w') := by
    intro x b W hb hu
    rw [← hb]
    exact house_any (h.upd hu (by simp)) x
  obtain ⟨src, dst, body⟩ := p
  simp only [RS.arg] at ha
  unfold Pk.val
  simp only
  unfold pkVals at HF
  simp only at HF
  have HU : Hid (Upd [] w (w.alloc (.cells #[.int .i64 src, .int .i64 dst, .string body] 31))) := (Upd.refl _ _).alloc _
  cases hs : r.has src with
  | false =>
    have HS := Lib.hid hs
    clear h ha hs
    go_enter Try.func15, Try.ntmps15
    go_wp2_with (go_at_call 36; refine (HAS.out _ _ _ HS.out HU.out).mono ?_; rintro e w' ⟨rfl, rfl⟩)
    go_ret
    exact ⟨rfl, HF.out⟩
  | true =>
    cases hd : r.has dst with
    | false =>
      have HS := Lib.hid hs
      have HD := Lib.hid hd
      clear h ha hs hd
      go_enter Try.func15, Try.ntmps15
      go_wp2_with (go_at_call 36; refine (HAS.out _ _ _ (by first | exact HS.out | exact HD.out) HU.out).mono ?_; rintro e w' ⟨rfl, rfl⟩)
      go_ret
      exact ⟨rfl, HF.out⟩
    | true =>
      have e : src = dst := by simpa [hs, hd] using ha
      subst e
      have HS := Lib.hid hs
      clear h ha hs hd
      go_enter Try.func15, Try.ntmps15
      go_wp2_with (go_at_call 36; refine (HAS.out src _ _ HS.out HU.out).mono ?_; rintro e w' ⟨rfl, rfl⟩)
      go_ret
      exact ⟨rfl, HF.out⟩

set_option maxHeartbeats 400000 in
theorem rsend_nil {w : World} (p : Pk) : Calls Try.prog 15 #[.pointer none, p.val] w fun e w' => e = .returned (.int .i64 1) ∧ Upd [] w w' := by
  obtain ⟨src, dst, body⟩ := p
  unfold Pk.val
  simp only
  go_enter Try.func15, Try.ntmps15
  go_wp2_with (go_at_call 36; refine (house_nil _).mono ?_; rintro e w' ⟨rfl, rfl⟩)
  go_ret
  exact ⟨rfl, (Upd.refl _ _).alloc _⟩

def RS.next (r : RS) : RS := { r with fates := r.fates.tail }
/-- The header's fates, one taken. -/
theorem RefAt.next {w : World} {base : Nat} {f : RFoot} {r : RS} (h : RefAt w base f r) (x : Fa) (l : List Fa) (hf : r.fates = x :: l) (a : Option Addr) (cap : Nat) (hv : w.cell? ⟨f.B, 1, none⟩ = some (.slice a r.fates.length cap)) :
    RPost base f r.next w (w.setCell ⟨f.B, 1, none⟩ (.slice (if cap = 1 then a else a.map (·.add 3)) l.length (cap - 1))) := by
  obtain ⟨fv, cv, h1, h2, h3, h4⟩ := h.ex
  obtain ⟨v', hv'⟩ : ∃ v' : Value, v' = .slice (if cap = 1 then a else a.map (·.add 3)) l.length (cap - 1) := ⟨_, rfl⟩
  rw [← hv']
  have hfv : fv = .slice a r.fates.length cap := by
    rw [cell_of_row w f.B 1 _ 62 (0, 0) h1] at hv
    simpa [refCells] using hv
  have hu : Upd [f.B] w (w.setCell ⟨f.B, 1, none⟩ v') := (Upd.refl _ _).setCell (.inl (by simp)) v'
  have hF : ∃ F', FatesIn (w.setCell ⟨f.B, 1, none⟩ v') v' l F' ∧ (∀ g, F' = some g → f.F = some g) := by
    obtain ⟨a', cap', e, hc, hh⟩ := h4
    rw [hfv] at e
    obtain ⟨rfl, -, rfl⟩ : a = a' ∧ r.fates.length = r.fates.length ∧ cap = cap' := by simpa using e
    rw [hf] at hc hh
    simp only [List.length_cons] at hc
    rcases hh with ⟨hnil, -⟩ | ⟨g, o, rfl, hFg, -, hx⟩
    · cases hnil
    · by_cases hl : l = []
      · exact ⟨none, ⟨_, _, hv', by omega, .inl ⟨hl, rfl⟩⟩, by simp⟩
      · have hlp : 0 < l.length := List.length_pos_iff.2 hl
        refine ⟨some g, ⟨_, _, hv', by omega, .inr ⟨g, o + 3, ?_, rfl, hl, ?_⟩⟩, fun k hk => by rw [hFg, hk]⟩
        · rw [if_neg (by omega)]; simp [Addr.add_lit]
        · refine hx.tail.upd hu fun hm => ?_
          exact h.bf g hFg (by simpa using hm)
  obtain ⟨F', hF1, hF2⟩ := hF
  refine ⟨⟨f.B, f.C, F'⟩, ⟨fun g hg => ⟨(h.bc g hg).1, fun e => (h.bc g hg).2 (hF2 g e)⟩, fun g hg => h.bf g (hF2 g hg), ?_, v', cv, ?_, h2, ?_, ?_⟩, ?_, ?_, rfl⟩
  · intro k hk
    rcases RFoot.mem.1 hk with rfl | hk | hk
    · exact h.ge _ (RFoot.mem.2 (.inl rfl))
    · exact h.ge _ (RFoot.mem.2 (.inr (.inl hk)))
    · exact h.ge _ (RFoot.mem.2 (.inr (.inr (hF2 _ hk))))
  · rw [heap_setCell_self h1]; simp [refCells, refObj, RS.next]
  · refine h3.upd fun k hk => Below.heap_setCell _ _ _ _ ?_
    exact (h.bc k (by rw [h2]; exact hk)).1
  · show FatesIn _ _ r.fates.tail F'
    rw [hf]; exact hF1
  · exact hu.mono (by simp [RFoot.mem])
  · intro k hk
    rcases RFoot.mem.1 hk with rfl | hk | hk
    · exact .inl (RFoot.mem.2 (.inl rfl))
    · exact .inl (RFoot.mem.2 (.inr (.inl hk)))
    · exact .inl (RFoot.mem.2 (.inr (.inr (hF2 _ hk))))

/-- The header's copies, replaced. -/
theorem RefAt.setC {w w' : World} {base : Nat} {f : RFoot} {r : RS} (h : RefAt w base f r) {cv v' : Value} {L : List Rc} (hcv : w.cell? ⟨f.B, 3, none⟩ = some cv) (hp : CpsAt w' base v' L) (hu : Upd cv.ownBlock.toList w w')
    (hw : v'.ownBlock = cv.ownBlock ∨ v'.ownBlock = none ∨ ∃ g, v'.ownBlock = some g ∧ w.heap.size ≤ g) : RPost base f { r with cps := L } w (w'.setCell ⟨f.B, 3, none⟩ v') := by
  obtain ⟨fv, cv', h1, h2, h3, h4⟩ := h.ex
  obtain rfl : cv = cv' := by
    rw [cell_of_row w f.B 3 _ 62 (0, 0) h1] at hcv
    simpa [refCells] using hcv.symm
  have hBlt := h.lt f.B (RFoot.mem.2 (.inl rfl))
  have hne : f.B ∉ cv.ownBlock.toList := fun hm => (h.bc f.B (by rw [h2]; simpa using hm)).1 rfl
  have h1' : w'.heap[f.B]? = some (refObj r.n fv r.time cv) := by rw [hu.block _ hBlt hne]; exact h1
  have hvB : ∀ k, v'.ownBlock = some k → k ≠ f.B ∧ f.F ≠ some k ∧ base ≤ k ∧ (k ∈ f.list ∨ w.heap.size ≤ k) := by
    intro k hk
    rcases hw with e | e | ⟨g, e, hg⟩
    · have hc : f.C = some k := by rw [h2, ← e]; exact hk
      exact ⟨(h.bc k hc).1, (h.bc k hc).2, h.ge k (RFoot.mem.2 (.inr (.inl hc))), .inl (RFoot.mem.2 (.inr (.inl hc)))⟩
    · rw [e] at hk; cases hk
    · rw [e] at hk
      obtain rfl : g = k := by simpa using hk
      exact ⟨by omega, fun e2 => by have := h4.lt g e2; omega, hp.ge g e, .inr hg⟩
  have hu2 : Upd [f.B] w' (w'.setCell ⟨f.B, 3, none⟩ v') := (Upd.refl _ _).setCell (.inl (by simp)) v'
  have hCl : ∀ k ∈ cv.ownBlock.toList, k ∈ f.list := fun k hk => RFoot.mem.2 (.inr (.inl (by rw [h2]; simpa using hk)))
  refine ⟨⟨f.B, v'.ownBlock, f.F⟩, ⟨fun g hg => ⟨(hvB g hg).1, (hvB g hg).2.1⟩, h.bf, ?_, fv, v', ?_, rfl, ?_, ?_⟩, ?_, ?_, rfl⟩
  · intro k hk
    rcases RFoot.mem.1 hk with rfl | hk | hk
    · exact h.ge _ (RFoot.mem.2 (.inl rfl))
    · exact (hvB k hk).2.2.1
    · exact h.ge _ (RFoot.mem.2 (.inr (.inr hk)))
  · rw [heap_setCell_self h1']; simp [refCells, refObj]
  · refine hp.upd fun k hk => Below.heap_setCell _ _ _ _ ?_
    exact (hvB k hk).1
  · refine (h4.upd hu fun k hk hm => ?_).upd hu2 fun k hk hm => ?_
    · exact (h.bc k (by rw [h2]; simpa using hm)).2 hk
    · exact h.bf k hk (by simpa using hm)
  · exact (hu.mono fun i hi => .inl (hCl i hi)).trans (hu2.mono fun i hi => .inl (RFoot.mem.2 (.inl (by simpa using hi))))
  · intro k hk
    rcases RFoot.mem.1 hk with rfl | hk | hk
    · exact .inl (RFoot.mem.2 (.inl rfl))
    · exact (hvB k hk).2.2.2
    · exact .inl (RFoot.mem.2 (.inr (.inr hk)))

theorem step_append_cps {ops : Array Oper} {o : Oper} {a : Act} {w : World} {K : Act → World → Prop} {Q : Exit → Act → World → Prop} {E : Prop} (hgd : o.guard = none) (s x : Operand)
    (ho : o.op = .call { callee := .builtin .append, args := #[s, x], argTypes := #[60, 60] }) {base : Nat} {v : Value} {L : List Rc} (hown : Hid (CpsAt w base v L)) {c : Rc} {b : Nat} (hX : Hid (∀ j u, ([c].flatMap rcVals)[j]? = some u → w.cell? ((⟨b, 0, none⟩ : Addr).add j) = some u))
    (hs : a.eval s = v) (hx : a.eval x = .slice (some ⟨b, 0, none⟩) 1 1) (hlen : L.length + 1 ≤ 100000) (hbase : base ≤ w.heap.size)
    (h : ∀ g cap w', Hid (CpsAt w' base (.slice (some ⟨g, 0, none⟩) (L.length + 1) cap) (L ++ [c])) → Hid (Upd v.ownBlock.toList w w') → Hid (v.ownBlock = some g ∨ w.heap.size ≤ g) → K (a.put o.dst (.slice (some ⟨g, 0, none⟩) (L.length + 1) cap)) w') :
    if Region.wanted o (yielded ops a.tmps) = true then Oper.wp Try.prog o a w K Q else E := by
  obtain ⟨i0, hi0, hz0, hz1, hz2⟩ := info_parts info75
  refine step_append_own w hgd s x 60 ho base 75 i0 _ 4 40 Try.underlying60 hi0 hz0 hz1 hz2 rfl (by decide) v L.length (L.flatMap rcVals) hs hown.out ⟨b, 0, none⟩ 1 1 ([c].flatMap rcVals) hx rfl hX.out (fun u hu => rc_one hu) Nat.zero_lt_one (by unfold maxLen; omega) (by omega) hbase ?_
  intro g cap w' h1 h2 h3
  refine h g cap w' ?_ ((Upd.refl _ _).grown h2 (fun k hk => .inl (by simp [hk]))) (h3.imp id fun e => Nat.le_of_eq e.symm)
  show w'.ownsRow base 75 4 _ _ _
  rw [List.length_append, List.flatMap_append]
  exact h1

theorem fate_right_of {fs : List Fa} (h : rightB fs = true) : (fs.headD Fa.one).right = true := by
  cases fs with
  | nil => rfl
  | cons x l => exact List.all_eq_true.1 h x (by simp)

set_option maxRecDepth 100000 in
set_option maxHeartbeats 8000000 in
theorem rsend_good {w : World} {base : Nat} {f : RFoot} {r : RS} (h : RefAt w base f r) (hr0 : rightB r.fates = true) (hb0 : base ≤ w.heap.size) (ht : r.time ≤ 1000000) (hcl : r.cps.length ≤ 4000) (hfb : r.fates.length ≤ 1000000) (src dst : Int) (body : ByteArray) (hs : r.has src = true) (hd : r.has dst = true) (hne : src ≠ dst) :
    Calls Try.prog 15 #[.pointer (some ⟨f.B, 0, none⟩), .agg #[.int .i64 src, .int .i64 dst, .string body]] w (RSendPost base f (r.send ⟨src, dst, body⟩).1 (r.send ⟨src, dst, body⟩).2 w) := by
  have HAS : Hid (∀ x W, r.has x = true → Upd [] w W → Calls Try.prog 36 #[.pointer (some ⟨f.B, 0, none⟩), .int .i64 x] W fun e w' => e = .returned (.bool true) ∧ W = w') := by
    intro x W hb hu
    have := house_any (h.upd hu (by simp)) x
    rwa [hb] at this
  have HU : Hid (Upd [] w (w.alloc (.cells #[.int .i64 src, .int .i64 dst, .string body] 31))) := (Upd.refl _ _).alloc _
  have HS := Lib.hid hs
  have HD := Lib.hid hd
  have hb : (src == dst) = false := by simpa using hne
  have HARG : Hid (r.arg ⟨src, dst, body⟩ = true) := by simp [Hid, RS.arg, hs, hd, hne]
  have hBl : f.B < w.heap.size := h.lt _ (RFoot.mem.2 (.inl rfl))
  have HH := Lib.hid h
  have hr : r.fate.right = true := fate_right_of hr0
  obtain ⟨y, hy⟩ : ∃ y, y = r.fate := ⟨_, rfl⟩
  have HY := Lib.hid hy
  obtain ⟨mn, hmn⟩ : ∃ mn, mn = r.fate.many := ⟨_, rfl⟩
  have hm9 : mn ≤ 9 := by rw [hmn]; exact Fa.many_le hr
  have HR : Hid (y.right = true) := by rw [hy]; exact hr
  have HMN := Lib.hid hmn
  have HM : Hid (mn = y.many) := by rw [hmn, hy]; rfl
  obtain ⟨fv, cv, c0, c1, c2, c3, cz, h1, h2, h3, h4⟩ := h.cells
  obtain ⟨a, cap, rfl, hcl0, hh⟩ := h4
  obtain ⟨ca, cc, rfl, -⟩ := h3.read
  have HFF := Lib.hid hh
  have hgl : ∀ g o, a = some ⟨g, o, none⟩ → r.fates ≠ [] → g < w.heap.size := by
    intro g o ha hne'
    rcases hh with ⟨hnil, -⟩ | ⟨g', o', ha', -, -, hx⟩
    · exact absurd hnil hne'
    · rw [ha] at ha'
      obtain ⟨rfl, rfl⟩ : g = g' ∧ o = o' := by simpa using ha'
      exact (hx 0 (List.length_pos_iff.2 hne')).lt
  have HGL := Lib.hid hgl
  obtain ⟨fl, hfl⟩ : ∃ fl, fl = r.fates.length := ⟨_, rfl⟩
  obtain ⟨cl, hcn⟩ : ∃ cl, cl = r.cps.length := ⟨_, rfl⟩
  rw [← hfl] at c1 hcl0
  rw [← hcn] at c3 hcl
  have HFL := Lib.hid hfl
  have HCN := Lib.hid hcn
  have HB1 := Lib.hid c1
  have HB3 := Lib.hid c3
  have HB2 := Lib.hid c2
  have HBZ := Lib.hid cz
  have hflm : fl ≤ 1000000 := by rw [hfl]; exact hfb
  clear hfl hfb hcn
  clear h hs hd hne hy hmn hr hr0 hh hgl h1 h2 h3 c2
  go_enter Try.func15, Try.ntmps15
  go_upto_if 33 with (go_at_call 36; refine (HAS.out _ _ (by first | exact HS.out | exact HD.out) HU.out).mono ?_; rintro e w' ⟨rfl, rfl⟩)
  go_cut [] (fun wc => Hid (Upd [] w wc ∧ wc.heap[w.heap.size]? = some (pbox src dst body) ∧ wc.heap[w.heap.size + 1]? = some (faObj y.lost y.copies y.delay)))
  case first =>
    have hz' : (w.alloc (Obj.cells #[Value.int IntKind.i64 src, Value.int IntKind.i64 dst, Value.string body] 31)).heap.size = w.heap.size + 1 := by simp
    cases hF : r.fates with
    | nil =>
      obtain rfl : fl = 0 := by rw [HFL.out, hF]; rfl
      have HY2 : Hid (y = Fa.one) := by
        have := HY.out
        rw [this, RS.fate, hF]; rfl
      clear hF
      go_wp2
      go_meet
      refine ⟨((Upd.refl [] w).alloc (pbox src dst body)).alloc (faObj false 1 0), ?_, ?_⟩
      · rw [Below.heap_alloc _ _ _ (by rw [hz']; omega)]; exact heap_alloc_new w _
      · rw [HY2.out, ← hz']; exact heap_alloc_new _ _
    | cons x l =>
      obtain ⟨g, o, ha, hx⟩ : ∃ g o, a = some ⟨g, o, none⟩ ∧ FasAt w g o r.fates := by
        rcases HFF.out with ⟨hnil, -⟩ | ⟨g, o, ha, -, -, hx⟩
        · rw [hF] at hnil; cases hnil
        · exact ⟨g, o, ha, hx⟩
      have hgl := HGL.out g o ha (by rw [hF]; simp)
      subst ha
      rw [hF] at hx
      have hl0 : 0 < fl := by rw [HFL.out, hF]; simp
      have hx0 := hx 0 (by simp)
      simp only [Nat.zero_mul, Nat.add_zero, List.getElem_cons_zero] at hx0
      have HY2 : Hid (y = x) := by
        have := HY.out
        rw [this, RS.fate, hF]; rfl
      clear hF hx
      obtain ⟨x0, x1, x2⟩ := x
      obtain ⟨k0, k1, k2⟩ := hx0
      simp only at k0 k1 k2
      have hl1 : decide ((0 : Int) < (fl : Int)) = true := by rw [decide_eq_true_eq]; omega
      have hl2 : (0 : Int) < (fl : Int) := by omega
      go_wp2
      go_meet
      refine ⟨((Upd.refl [] w).alloc (pbox src dst body)).alloc (faObj x0 x1 x2), ?_, ?_⟩
      · rw [Below.heap_alloc _ _ _ (by rw [hz']; omega)]; exact heap_alloc_new w _
      · rw [HY2.out, ← hz']; exact heap_alloc_new _ _
  case rest =>
    obtain ⟨W0, hW0⟩ : ∃ W0, W0 = wc := ⟨_, rfl⟩
    rw [← hW0] at hcut
    rw [← hW0]
    clear hW0 wc
    have HC1 := hcut
    obtain ⟨hu, hP, hF⟩ := HC1.out
    obtain ⟨f0, f1, f2, fz⟩ := row_cells3 hF
    have hflt : w.heap.size + 1 < W0.heap.size := (Array.getElem?_eq_some_iff.1 hF).1
    have d1 := hu.cell c1 (by simp)
    have d3 := hu.cell c3 (by simp)
    have hBl0 : f.B < W0.heap.size := by omega
    clear hcut hu hP hF c1 c3 c0 cz
    go_upto_if 43 with fail
    go_cut [6] (fun m wc => m = .int .i64 mn ∧ wc = W0)
    case first =>
      obtain ⟨y0, y1, y2⟩ := y
      simp only at f0 f1 f2
      cases y0 with
      | true =>
        obtain rfl : mn = 0 := by rw [HM.out]; rfl
        go_wp2
        go_meet
        exact ⟨rfl, rfl⟩
      | false =>
        have hr := HR.out
        have hr' : 1 ≤ y1 ∧ y1 ≤ 9 ∧ 0 ≤ y2 ∧ y2 ≤ 100 := by simpa [Fa.right] using hr
        have HE : Hid (((mn : Nat) : Int) = y1) := by
          unfold Hid
          rw [HM.out]; simp [Fa.many]; omega
        clear hr hr'
        go_wp2
        go_meet
        exact ⟨by rw [HE.out], rfl⟩
    case rest =>
      obtain ⟨rfl, rfl⟩ := hcut
      by_cases hlim : 4000 < cl + mn
      · have hd1 : decide ((4000 : Int) < (cl : Int) + (mn : Int)) = true := by rw [decide_eq_true_eq]; omega
        have hd2 : (4000 : Int) < (cl : Int) + (mn : Int) := by omega
        go_wp2_with fail
        go_ret
        have hsend : r.send ⟨src, dst, body⟩ = (r, 3) := by
          unfold RS.send
          rw [if_neg (by simpa using HARG.out), if_pos (by rw [← HMN.out, ← HCN.out]; exact hlim)]
        rw [hsend]
        exact ⟨rfl, f, HH.out.upd (G := []) HC1.out.1 (by simp), .same HC1.out.1⟩
      · have hd1 : decide ((4000 : Int) < (cl : Int) + (mn : Int)) = false := by rw [decide_eq_false_iff_not]; omega
        have hd2 : (cl : Int) + (mn : Int) ≤ 4000 := by omega
        have HSE : Hid (r.send ⟨src, dst, body⟩ = ({ r.next with cps := r.next.cps ++ List.replicate mn (⟨src, dst, body⟩, r.time + y.delay.toNat) }, 0)) := by
          unfold Hid RS.send
          rw [if_neg (by simpa using HARG.out), if_neg (by rw [← HMN.out, ← HCN.out]; exact hlim), ← HMN.out, ← HY.out]
          rfl
        have hlimN : cl + mn ≤ 4000 := by omega
        clear hlim
        obtain ⟨W2, rfl⟩ : ∃ W2 : World, W2 = wc := ⟨_, rfl⟩
        have HN2 : Hid (RefAt W2 base f r) := HH.out.upd HC1.out.1 (by simp)
        have HZ2 : Hid (∀ i, W2.frozen? ⟨f.B, i, none⟩ = false) := fun i => (HC1.out.1.frozen hBl (by simp)).trans (HBZ.out i)
        have bz := HZ2.out
        have HD1 := Lib.hid d1
        obtain ⟨pp0, pp1, pp2, -⟩ := row_cells3 HC1.out.2.1
        have P0 := Lib.hid pp0
        have P1 := Lib.hid pp1
        have P2 := Lib.hid pp2
        have F2 := Lib.hid f2
        have hPf : w.heap.size ∉ f.list := fun hm => absurd (HH.out.lt _ hm) (by omega)
        have hFf : w.heap.size + 1 ∉ f.list := fun hm => absurd (HH.out.lt _ hm) (by omega)
        have HPF := Lib.hid hPf
        have HFF2 := Lib.hid hFf
        clear pp0 pp1 pp2 f0 f1 f2 fz hPf hFf hd1 hd2
        have hd1 : decide ((4000 : Int) < (cl : Int) + (mn : Int)) = false := by rw [decide_eq_false_iff_not]; omega
        have hd2 : (cl : Int) + (mn : Int) ≤ 4000 := by omega
        go_upto_if 57 with fail
        go_cut [] (fun wd => Hid (RPost base f r.next W2 wd))
        case first =>
          cases hF : r.fates with
          | nil =>
            obtain rfl : fl = 0 := by rw [HFL.out, hF]; rfl
            have HS2 : Hid (r.next = r) := by
              unfold Hid RS.next
              rw [hF]
              cases r
              simp only at hF
              subst hF
              rfl
            clear hF
            go_wp2
            go_meet
            refine ⟨f, ?_, .same (Upd.refl _ _)⟩
            rw [HS2.out]
            exact HN2.out
          | cons x l =>
            have hl0 : 0 < fl := by rw [HFL.out, hF]; simp
            have hll : fl - 1 = l.length := by rw [HFL.out, hF]; simp
            have hl1 : decide ((0 : Int) < (fl : Int)) = true := by rw [decide_eq_true_eq]; omega
            have hl2 : (0 : Int) < (fl : Int) := by omega
            have hl3 : (1 : Int) ≤ (fl : Int) := by omega
            have HNX : Hid (RPost base f r.next W2 (W2.setCell ⟨f.B, 1, none⟩ (.slice (if cap = 1 then a else a.map (·.add 3)) l.length (cap - 1)))) := HN2.out.next x l hF a cap (by rw [← HFL.out]; exact d1)
            obtain ⟨g, o, ha⟩ : ∃ g o, a = some ⟨g, o, none⟩ := by
              rcases HFF.out with ⟨hnil, -⟩ | ⟨g, o, ha, -⟩
              · rw [hF] at hnil; cases hnil
              · exact ⟨g, o, ha⟩
            clear hF
            subst ha
            by_cases hcap : cap = 1
            · subst hcap
              have HNX2 := HNX.out
              simp only [if_true] at HNX2
              have HK := Lib.hid HNX2
              clear HNX HNX2
              go_wp2
              go_meet
              exact HK.out
            · have HNX2 := HNX.out
              simp only [if_neg hcap, Option.map_some, Addr.add_lit] at HNX2
              have HK := Lib.hid HNX2
              clear HNX HNX2
              go_wp2
              go_meet
              exact HK.out
        case rest =>
          obtain ⟨W3, hW3⟩ : ∃ W3, W3 = wc := ⟨_, rfl⟩
          rw [← hW3] at hcut
          rw [← hW3]
          have HC3 := hcut
          clear hW3 wc hcut d1 d3 bz hBl0 hd1 hd2
          obtain ⟨c, hc⟩ : ∃ c : Rc, c = (⟨src, dst, body⟩, r.time + y.delay.toNat) := ⟨_, rfl⟩
          have HCE := Lib.hid hc
          go_wp2_with fail
          go_loopw [7] (fun i wr => ∃ q : Nat, q ≤ mn ∧ i = .int .i64 q ∧ Hid (RPost base f { r.next with cps := r.next.cps ++ List.replicate q c } W2 wr)) (fun i _ => mn - (intOf i).toNat)
          case atStart => exact ⟨0, Nat.zero_le _, rfl, by have := HC3.out; simpa [Hid] using this⟩
          case round =>
            obtain ⟨q, hq, rfl, hR⟩ := hrel
            by_cases hqm : q < mn
            · have hys : y.lost = false ∧ 0 ≤ y.delay ∧ y.delay ≤ 100 := by
                have h1 := HM.out
                have h2 := HR.out
                unfold Fa.many at h1
                simp only [Fa.right, Bool.or_eq_true, decide_eq_true_eq] at h2
                cases hl : y.lost with
                | true => rw [hl] at h1; simp at h1; omega
                | false => rw [hl] at h2; simp at h2; exact ⟨rfl, h2.2.2.1, h2.2.2.2⟩
              obtain ⟨dl, hdl⟩ := Int.eq_ofNat_of_zero_le hys.2.1
              have hdl100 : dl ≤ 100 := by have := hys.2.2; omega
              obtain ⟨fq, hq1, hT⟩ := hR.out
              have hT' := hT
              obtain ⟨fv', cv', -, -, u2, u3, uz, -, v2, v3, -⟩ := hq1.cells
              obtain ⟨L, hL⟩ : ∃ L, L = r.next.cps ++ List.replicate q c := ⟨_, rfl⟩
              have hLl : L.length ≤ 4010 := by
                rw [hL, List.length_append, List.length_replicate]
                have : r.next.cps.length = cl := HCN.out.symm
                omega
              have v3 : CpsAt wr base cv' L := by rw [hL]; exact v3
              obtain ⟨ca', cc', hcv', -⟩ := v3.read
              obtain ⟨ll, hll⟩ : ∃ ll, ll = L.length := ⟨_, rfl⟩
              rw [← hll] at hcv'
              obtain ⟨rt, hrt⟩ : ∃ rt, rt = r.time := ⟨_, rfl⟩
              obtain ⟨td, htd⟩ : ∃ td, td = rt + dl := ⟨_, rfl⟩
              have htdI : (rt : Int) + (dl : Int) = (td : Int) := by omega
              have hcc : c = (⟨src, dst, body⟩, td) := by rw [HCE.out, hdl, htd, hrt]; simp
              have u2 : wr.cell? ⟨f.B, 2, none⟩ = some (.int .i64 rt) := by rw [hrt, ← hT.B]; exact u2
              have u3 : wr.cell? ⟨f.B, 3, none⟩ = some cv' := by rw [← hT.B]; exact u3
              have uz : ∀ i, wr.frozen? ⟨f.B, i, none⟩ = false := fun i => by rw [← hT.B]; exact uz i
              have hrt1 : rt ≤ 1000000 := by rw [hrt]; exact ht
              have o0 := hT.upd.cell P0.out HPF.out
              have o1 := hT.upd.cell P1.out HPF.out
              have o2 := hT.upd.cell P2.out HPF.out
              have o3 := hT.upd.cell F2.out HFF2.out
              rw [hdl] at o3
              have hW2l : w.heap.size + 1 < W2.heap.size := hflt
              have hown : ∀ k, cv'.ownBlock = some k → k ≠ f.B ∧ k ≠ w.heap.size ∧ k ≠ w.heap.size + 1 := by
                intro k hk
                have hm : fq.C = some k := by rw [v2]; exact hk
                refine ⟨by rw [← hT.B]; exact (hq1.bc k hm).1, ?_, ?_⟩
                · rintro rfl
                  rcases hT.sub _ (RFoot.mem.2 (.inr (.inl hm))) with h | h
                  · exact HPF.out h
                  · omega
                · rintro rfl
                  rcases hT.sub _ (RFoot.mem.2 (.inr (.inl hm))) with h | h
                  · exact HFF2.out h
                  · omega
              have hU : Upd [] wr ((wr.alloc (.cells #[.int .i64 src, .int .i64 dst, .string body, .int .i64 td] 75)).drew) := ((Upd.refl _ _).alloc _).drew
              have HU5 := Lib.hid hU
              have HXN : Hid (∀ j u, ([c].flatMap rcVals)[j]? = some u → ((wr.alloc (.cells #[.int .i64 src, .int .i64 dst, .string body, .int .i64 td] 75)).drew).cell? ((⟨wr.heap.size, 0, none⟩ : Addr).add j) = some u) := by
                intro j u hj
                have hn : ((wr.alloc (.cells #[.int .i64 src, .int .i64 dst, .string body, .int .i64 td] 75)).drew).heap[wr.heap.size]? = some (.cells #[.int .i64 src, .int .i64 dst, .string body, .int .i64 td] 75 (0, 0)) := heap_alloc_new wr _
                rw [Addr.add_lit, cell_of_row _ wr.heap.size (0 + j) _ 75 (0, 0) hn, Nat.zero_add]
                rw [hcc] at hj
                simpa [rcVals] using hj
              have HPO : Hid (CpsAt ((wr.alloc (.cells #[.int .i64 src, .int .i64 dst, .string body, .int .i64 td] 75)).drew) base cv' L) := (v3.alloc _).drew
              have HKP : Hid (∀ (w' : World) (k o : Nat) (u : Value), Upd cv'.ownBlock.toList ((wr.alloc (.cells #[.int .i64 src, .int .i64 dst, .string body, .int .i64 td] 75)).drew) w' → wr.cell? ⟨k, o, none⟩ = some u → (k = f.B ∨ k = w.heap.size ∨ k = w.heap.size + 1) → w'.cell? ⟨k, o, none⟩ = some u ∧ w'.frozen? ⟨k, o, none⟩ = wr.frozen? ⟨k, o, none⟩) := by
                intro w' k o u hu hc hcc
                have hnb : k ∉ cv'.ownBlock.toList := by
                  intro hm
                  have hm' := hown k (by simpa using hm)
                  rcases hcc with rfl | rfl | rfl
                  · exact hm'.1 rfl
                  · exact hm'.2.1 rfl
                  · exact hm'.2.2 rfl
                have hc' := HU5.out.cell hc (by simp)
                exact ⟨hu.cell hc' hnb, (hu.frozen (World.block_lt_of_cell? _ _ hc') hnb).trans (HU5.out.frozen (World.block_lt_of_cell? _ _ hc) (by simp))⟩
              have HPOST : Hid (∀ g cap2 w', CpsAt w' base (.slice (some ⟨g, 0, none⟩) (L.length + 1) cap2) (L ++ [c]) → Upd cv'.ownBlock.toList ((wr.alloc (.cells #[.int .i64 src, .int .i64 dst, .string body, .int .i64 td] 75)).drew) w' → (cv'.ownBlock = some g ∨ ((wr.alloc (.cells #[.int .i64 src, .int .i64 dst, .string body, .int .i64 td] 75)).drew).heap.size ≤ g) →
                  RPost base f { r.next with cps := r.next.cps ++ List.replicate (q + 1) c } W2 (w'.setCell ⟨f.B, 3, none⟩ (.slice (some ⟨g, 0, none⟩) (L.length + 1) cap2))) := by
                intro g cap2 w' x1 x2 x3
                have h5 := hq1.upd HU5.out (by simp)
                obtain ⟨f6, y1, y2⟩ := h5.setC (cv := cv') (by rw [hT'.B]; exact HU5.out.cell u3 (by simp)) x1 x2 (by
                  rcases x3 with x3 | x3
                  · exact .inl x3.symm
                  · exact .inr (.inr ⟨g, rfl, x3⟩))
                rw [hT'.B] at y1 y2
                refine ⟨f6, ?_, (hT'.trans (.same HU5.out)).trans y2⟩
                have e : L ++ [c] = r.next.cps ++ List.replicate (q + 1) c := by rw [hL, List.append_assoc, ← List.replicate_succ']
                rw [e] at y1
                exact y1
              have HEZ : Hid (wr.frozen? ⟨f.B, 3, none⟩ = false) := uz 3
              have HU3 := Lib.hid u3
              have hbw : base ≤ wr.heap.size := Nat.le_trans hb0 (Nat.le_trans HC1.out.1.size hT.upd.size)
              have HBW := Lib.hid hbw
              have n0 := World.new_ne wr _ u3
              have n1 := World.new_ne wr _ o0
              have hw1 : IntKind.i64.wrap ((rt : Int) + (dl : Int)) = (td : Int) := by rw [IntKind.wrap_i64]; omega
              subst hcv'
              clear hq1 hT hT' v2 v3 hown hU uz hys hcc hdl hR hbw hrt htd htdI hll hL hc
              go_wp2_with fail
              refine late_begin (fun w' => w'.cell? ⟨f.B, 3, none⟩ = some (.slice ca' ll cc') ∧ w'.cell? ⟨f.B, 2, none⟩ = some (.int .i64 rt) ∧ w'.cell? ⟨w.heap.size, 0, none⟩ = some (.int .i64 src) ∧ w'.cell? ⟨w.heap.size, 1, none⟩ = some (.int .i64 dst) ∧ w'.cell? ⟨w.heap.size, 2, none⟩ = some (.string body) ∧ w'.cell? ⟨w.heap.size + 1, 2, none⟩ = some (.int .i64 dl)) 18 (by kernel_rfl) ⟨u3, u2, o0, o1, o2, o3⟩ (fun hHeld => ?_)
              refine late_take (i := 0) (v := ?_) rfl (by kernel_rfl) (by kernel_rfl) (by kernel_rfl) (by kernel_rfl) (fun _ _ _ h => h) (Or.inl ⟨by rfl, ?_⟩) (by assumption) ?_
              rotate_left
              · intro w hSw; (try dsimp only at hSw); (try go_simp); all_goals with_reducible rfl
              try simp only [Act.put, List.setIfInBounds_toArray, List.set_cons_zero, List.set_cons_succ]
              refine late_take (i := 1) (v := ?_) rfl (by kernel_rfl) (by kernel_rfl) (by kernel_rfl) (by kernel_rfl) (fun _ _ _ h => h) (Or.inl ⟨by rfl, ?_⟩) (by assumption) ?_
              rotate_left
              · intro w hSw; (try dsimp only at hSw); (try go_simp); all_goals with_reducible rfl
              try simp only [Act.put, List.setIfInBounds_toArray, List.set_cons_zero, List.set_cons_succ]
              refine late_take (i := 2) (v := ?_) rfl (by kernel_rfl) (by kernel_rfl) (by kernel_rfl) (by kernel_rfl) (fun _ _ _ h => h) (Or.inl ⟨by rfl, ?_⟩) (by assumption) ?_
              rotate_left
              · intro w hSw; (try dsimp only at hSw); (try go_simp); all_goals with_reducible rfl
              try simp only [Act.put, List.setIfInBounds_toArray, List.set_cons_zero, List.set_cons_succ]
              refine late_take (i := 3) (v := ?_) rfl (by kernel_rfl) (by kernel_rfl) (by kernel_rfl) (by kernel_rfl) (fun _ _ _ h => h) (Or.inl ⟨by rfl, ?_⟩) (by assumption) ?_
              rotate_left
              · intro w hSw; (try dsimp only at hSw); (try go_simp); all_goals with_reducible rfl
              try simp only [Act.put, List.setIfInBounds_toArray, List.set_cons_zero, List.set_cons_succ]
              refine late_take (i := 4) (v := ?_) rfl (by kernel_rfl) (by kernel_rfl) (by kernel_rfl) (by kernel_rfl) (fun _ _ _ h => h) (Or.inl ⟨by rfl, ?_⟩) (by assumption) ?_
              rotate_left
              · intro w hSw; (try dsimp only at hSw); (try go_simp); all_goals with_reducible rfl
              try simp only [Act.put, List.setIfInBounds_toArray, List.set_cons_zero, List.set_cons_succ]
              refine late_take (i := 5) (v := ?_) rfl (by kernel_rfl) (by kernel_rfl) (by kernel_rfl) (by kernel_rfl) (fun _ _ _ h => h) (Or.inl ⟨by rfl, ?_⟩) (by assumption) ?_
              rotate_left
              · intro w hSw; (try dsimp only at hSw); (try go_simp); all_goals with_reducible rfl
              try simp only [Act.put, List.setIfInBounds_toArray, List.set_cons_zero, List.set_cons_succ]
              refine late_take (i := 6) (v := ?_) rfl (by kernel_rfl) (by kernel_rfl) (by kernel_rfl) (by kernel_rfl) (fun _ _ _ h => h) (Or.inl ⟨by rfl, ?_⟩) (by assumption) ?_
              rotate_left
              · intro w hSw; (try dsimp only at hSw); (try go_simp); all_goals with_reducible rfl
              try simp only [Act.put, List.setIfInBounds_toArray, List.set_cons_zero, List.set_cons_succ]
              refine late_take (i := 7) (v := ?_) rfl (by kernel_rfl) (by kernel_rfl) (by kernel_rfl) (by kernel_rfl) (fun _ _ _ h => h) (Or.inl ⟨by rfl, ?_⟩) (by assumption) ?_
              rotate_left
              · intro w hSw; (try dsimp only at hSw); (try go_simp); all_goals with_reducible rfl
              try simp only [Act.put, List.setIfInBounds_toArray, List.set_cons_zero, List.set_cons_succ]
              refine late_take (i := 8) (v := ?_) rfl (by kernel_rfl) (by kernel_rfl) (by kernel_rfl) (by kernel_rfl) (fun _ _ _ h => h) (Or.inl ⟨by rfl, ?_⟩) (by assumption) ?_
              rotate_left
              · intro w hSw; (try dsimp only at hSw); (try go_simp); all_goals with_reducible rfl
              try simp only [Act.put, List.setIfInBounds_toArray, List.set_cons_zero, List.set_cons_succ]
              refine late_take (i := 9) (v := ?_) rfl (by kernel_rfl) (by kernel_rfl) (by kernel_rfl) (by kernel_rfl) (fun _ _ _ h => h) (Or.inl ⟨by rfl, ?_⟩) (by assumption) ?_
              rotate_left
              · intro w hSw; (try dsimp only at hSw); (try go_simp); all_goals with_reducible rfl
              try simp only [Act.put, List.setIfInBounds_toArray, List.set_cons_zero, List.set_cons_succ]
              refine late_take (i := 10) (v := ?_) rfl (by kernel_rfl) (by kernel_rfl) (by kernel_rfl) (by kernel_rfl) (fun _ _ _ h => h) (Or.inl ⟨by rfl, ?_⟩) (by assumption) ?_
              rotate_left
              · intro w hSw; (try dsimp only at hSw); (try go_simp); all_goals with_reducible rfl
              try simp only [Act.put, List.setIfInBounds_toArray, List.set_cons_zero, List.set_cons_succ]
              refine late_take (i := 11) (v := ?_) rfl (by kernel_rfl) (by kernel_rfl) (by kernel_rfl) (by kernel_rfl) (fun _ _ _ h => h) (Or.inl ⟨by rfl, ?_⟩) (by assumption) ?_
              rotate_left
              · intro w hSw; (try dsimp only at hSw); (try go_simp); all_goals with_reducible rfl
              try simp only [Act.put, List.setIfInBounds_toArray, List.set_cons_zero, List.set_cons_succ]
              refine late_take (i := 12) (v := ?_) rfl (by kernel_rfl) (by kernel_rfl) (by kernel_rfl) (by kernel_rfl) (fun _ _ _ h => h) (Or.inl ⟨by rfl, ?_⟩) (by assumption) ?_
              rotate_left
              · intro w hSw; (try dsimp only at hSw); (try go_simp); all_goals with_reducible rfl
              try simp only [Act.put, List.setIfInBounds_toArray, List.set_cons_zero, List.set_cons_succ]
              refine late_take (i := 13) (v := ?_) rfl (by kernel_rfl) (by kernel_rfl) (by kernel_rfl) (by kernel_rfl) (fun _ _ _ h => h) (Or.inl ⟨by rfl, ?_⟩) (by assumption) ?_
              rotate_left
              · intro w hSw; (try dsimp only at hSw); (try go_simp); all_goals with_reducible rfl
              try simp only [Act.put, List.setIfInBounds_toArray, List.set_cons_zero, List.set_cons_succ]
              refine late_one (i := 14) (by kernel_rfl) rfl (fun K hK => ?_)
              go_simp
              have hHeld2 := (⟨HU5.out.cell u3 (by simp), HU5.out.cell u2 (by simp), HU5.out.cell o0 (by simp), HU5.out.cell o1 (by simp), HU5.out.cell o2 (by simp), HU5.out.cell o3 (by simp)⟩ : ((wr.alloc (.cells #[.int .i64 src, .int .i64 dst, .string body, .int .i64 td] 75)).drew).cell? ⟨f.B, 3, none⟩ = some (.slice ca' ll cc') ∧ ((wr.alloc (.cells #[.int .i64 src, .int .i64 dst, .string body, .int .i64 td] 75)).drew).cell? ⟨f.B, 2, none⟩ = some (.int .i64 rt) ∧ ((wr.alloc (.cells #[.int .i64 src, .int .i64 dst, .string body, .int .i64 td] 75)).drew).cell? ⟨w.heap.size, 0, none⟩ = some (.int .i64 src) ∧ ((wr.alloc (.cells #[.int .i64 src, .int .i64 dst, .string body, .int .i64 td] 75)).drew).cell? ⟨w.heap.size, 1, none⟩ = some (.int .i64 dst) ∧ ((wr.alloc (.cells #[.int .i64 src, .int .i64 dst, .string body, .int .i64 td] 75)).drew).cell? ⟨w.heap.size, 2, none⟩ = some (.string body) ∧ ((wr.alloc (.cells #[.int .i64 src, .int .i64 dst, .string body, .int .i64 td] 75)).drew).cell? ⟨w.heap.size + 1, 2, none⟩ = some (.int .i64 dl))
              refine hK.out _ _ (fun _ => hHeld2) ?_
              clear hK K hHeld hHeld2
              try simp only [Act.put, List.setIfInBounds_toArray, List.set_cons_zero, List.set_cons_succ]
              refine late_one (i := 15) (by kernel_rfl) rfl (fun K hK => ?_)
              refine step_append_cps rfl _ _ (by rfl) (base := base) (L := L) (c := c) HPO HXN (by rfl) (by rfl) (by omega) (Nat.le_trans HBW.out HU5.out.size) ?_
              intro g6 cap6 w6 q1 q2 q3
              have j0 := (HKP.out w6 _ _ _ q2.out HU3.out (.inl rfl)).1
              have j1 := (HKP.out w6 _ _ _ q2.out u2 (.inl rfl)).1
              have j2 := (HKP.out w6 _ _ _ q2.out o0 (.inr (.inl rfl))).1
              have j3 := (HKP.out w6 _ _ _ q2.out o1 (.inr (.inl rfl))).1
              have j4 := (HKP.out w6 _ _ _ q2.out o2 (.inr (.inl rfl))).1
              have j5 := (HKP.out w6 _ _ _ q2.out o3 (.inr (.inr rfl))).1
              have jz := (HKP.out w6 _ _ _ q2.out HU3.out (.inl rfl)).2
              rw [HEZ.out] at jz
              have HP6 := Lib.hid (HPOST.out g6 cap6 w6 q1.out q2.out q3.out)
              clear q1 q2 q3
              refine hK.out _ _ (fun _ => ⟨j0, j1, j2, j3, j4, j5⟩) ?_
              clear hK K
              try simp only [Act.put, List.setIfInBounds_toArray, List.set_cons_zero, List.set_cons_succ]
              refine late_one (i := 16) (by kernel_rfl) rfl (fun K hK => ?_)
              go_simp
              refine hK.out _ _ (fun _ => ⟨j0, j1, j2, j3, j4, j5⟩) ?_
              clear hK K
              try simp only [Act.put, List.setIfInBounds_toArray, List.set_cons_zero, List.set_cons_succ]
              refine late_one (i := 17) (by kernel_rfl) rfl (fun K hK => ?_)
              go_simp
              refine hK.out _ _ (fun _ => ⟨j0, j1, j2, j3, j4, j5⟩) ?_
              clear hK K
              try simp only [Act.put, List.setIfInBounds_toArray, List.set_cons_zero, List.set_cons_succ]
              refine late_one (i := 18) (by kernel_rfl) rfl (fun K hK => ?_)
              go_simp
              refine hK.out _ _ (fun h => absurd rfl h) ?_
              clear hK K
              try simp only [Act.put, List.setIfInBounds_toArray, List.set_cons_zero, List.set_cons_succ]
              refine late_done (by kernel_rfl) ?_ _
              go_wp2_with fail
              exact ⟨⟨q + 1, by omega, by go_num, HP6⟩, by simp [intOf]; omega⟩
            · obtain rfl : q = mn := by omega
              go_wp2_with fail
              go_ret
              obtain ⟨f6, y1, y2⟩ := hR.out
              rw [HSE.out, ← HCE.out]
              exact ⟨rfl, f6, y1, (RTurn.same HC1.out.1).trans y2⟩
end Go.Proofs.Ytlmfgdibodpniaa
