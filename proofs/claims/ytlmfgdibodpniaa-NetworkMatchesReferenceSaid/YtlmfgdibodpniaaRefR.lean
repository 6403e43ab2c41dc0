/- The reference network, walked: Receive. -/
import Derived.Test.YtlmfgdibodpniaaRefO
namespace Go.Proofs.Ytlmfgdibodpniaa
open Go.RowKit

theorem rc_take_yes {l : List Rc} {p : Rc → Bool} {q : Nat} (h : q < l.length) (hp : p l[q] = true) : (l.take (q + 1)).filter p = (l.take q).filter p ++ [l[q]] := by
  rw [List.take_succ_eq_append_getElem h, List.filter_append, List.filter_cons_of_pos hp, List.filter_nil]
theorem rc_take_no {l : List Rc} {p : Rc → Bool} {q : Nat} (h : q < l.length) (hp : p l[q] = false) : (l.take (q + 1)).filter p = (l.take q).filter p := by
  rw [List.take_succ_eq_append_getElem h, List.filter_append, List.filter_cons_of_neg (by rw [hp]; decide), List.filter_nil, List.append_nil]

set_option maxHeartbeats 1000000 in
theorem rrecv_bad {w : World} {base : Nat} {f : RFoot} {r : RS} (h : RefAt w base f r) (x : Int) (hx : r.has x = false) :
    Calls Try.prog 17 #[.pointer (some ⟨f.B, 0, none⟩), .int .i64 x] w fun e w' => e = .returned (.tuple #[.slice none 0 0, .int .i64 1]) ∧ w = w' := by
  have HHS : Hid (Calls Try.prog 36 #[.pointer (some ⟨f.B, 0, none⟩), .int .i64 x] w fun e w' => e = .returned (.bool false) ∧ w = w') := by rw [← hx]; exact house_any h x
  clear h hx
  go_enter Try.func17, Try.ntmps17
  go_wp2_with (go_at_call 36; refine HHS.out.mono ?_; rintro e w' ⟨rfl, rfl⟩)
  go_ret2
  exact ⟨rfl, rfl⟩
set_option maxHeartbeats 1000000 in
theorem rrecv_nil {w : World} (x : Int) :
    Calls Try.prog 17 #[.pointer none, .int .i64 x] w fun e w' => e = .returned (.tuple #[.slice none 0 0, .int .i64 1]) ∧ w = w' := by
  go_enter Try.func17, Try.ntmps17
  go_wp2_with (go_at_call 36; refine (house_nil _).mono ?_; rintro e w' ⟨rfl, rfl⟩)
  go_ret2
  exact ⟨rfl, rfl⟩

set_option maxRecDepth 100000 in
set_option maxHeartbeats 8000000 in
theorem rrecv_any {w : World} {base : Nat} {f : RFoot} {r : RS} (h : RefAt w base f r) (hb0 : base ≤ w.heap.size) (hcl : r.cps.length ≤ 90000) (ht : r.time ≤ 1000000) (hh : Nat) (hhn : hh < r.n) (hn12 : r.n ≤ 12) :
    Calls Try.prog 17 #[.pointer (some ⟨f.B, 0, none⟩), .int .i64 hh] w fun e w' => ∃ v, e = .returned (.tuple #[v, .int .i64 0]) ∧ PkList w' v (r.got hh) ∧ RPost base f (r.recv hh) w w' := by
  have hhas : r.has (hh : Int) = true := by simp [RS.has, hhn]
  have HHS : Hid (Calls Try.prog 36 #[.pointer (some ⟨f.B, 0, none⟩), .int .i64 hh] w fun e w' => e = .returned (.bool true) ∧ w = w') := by rw [← hhas]; exact house_any h hh
  have HORD : Hid (Calls Try.prog 37 #[.pointer (some ⟨f.B, 0, none⟩), .int .i64 hh] w fun e w' => ∃ v, e = .returned v ∧ PksAt w' w.heap.size v (r.got hh) ∧ Upd [] w w') := ordered_any h (by omega) ht hh (by omega)
  obtain ⟨fv, cv, -, -, c2, c3, cz, -, -, h3, -⟩ := h.cells
  obtain ⟨ca, cc, rfl, hx⟩ := h3.read
  obtain ⟨N, hN⟩ : ∃ N, N = r.cps.length := ⟨_, rfl⟩
  rw [← hN] at c3
  have HN := Lib.hid hN
  have HC2 := Lib.hid c2
  have HC3 := Lib.hid c3
  have HCZ := Lib.hid cz
  have HX := Lib.hid hx
  have HH := Lib.hid h
  have hBl := h.lt f.B (RFoot.mem.2 (.inl rfl))
  have HBL := Lib.hid hBl
  have hN1 : N ≤ 90000 := by rw [hN]; exact hcl
  clear h h3 hx hcl hN hhas c2 c3 cz hBl
  go_enter Try.func17, Try.ntmps17
  go_upto_region 4 with (first | (go_at_call 36; refine HHS.out.mono ?_; rintro e w' ⟨rfl, rfl⟩) | (go_at_call 37; refine HORD.out.mono ?_; rintro e w2 ⟨v, rfl, hv2, hu2⟩; have HV2 := Lib.hid hv2; have HU2 := Lib.hid hu2; obtain ⟨va, vc, hvv, -⟩ := hv2.read; obtain ⟨gn, hgn⟩ : ∃ gn, gn = (r.got hh).length := ⟨_, rfl⟩; rw [← hgn] at hvv; subst hvv; clear hv2 hu2 hgn))
  go_wp2_with fail
  go_loopw [7, 8] (fun kv i wr => ∃ j : Nat, j ≤ N ∧ i = .int .i64 j ∧ ∃ L ka kc, kv = .slice ka L.length kc ∧ Hid (L = (r.cps.take j).filter fun c => !r.due hh c) ∧ Hid (CpsAt wr w2.heap.size (.slice ka L.length kc) L ∧ Upd [] w wr ∧ Upd [] w2 wr)) (fun _ i _ => N - (intOf i).toNat)
  case atStart => exact ⟨0, Nat.zero_le _, rfl, [], none, 0, rfl, rfl, CpsAt.nil _ _, HU2.out, Upd.refl _ _⟩
  case round =>
    obtain ⟨j, hj, rfl, L, ka, kc, rfl, hL, hR⟩ := hrel
    have HUW : Hid (Upd [] w wr) := hR.out.2.1
    have HU2W : Hid (Upd [] w2 wr) := hR.out.2.2
    have HKC : Hid (CpsAt wr w2.heap.size (.slice ka L.length kc) L) := hR.out.1
    have e2 := HUW.out.cell HC2.out (by simp)
    have e3 := HUW.out.cell HC3.out (by simp)
    have hLl : L.length ≤ 90000 := by rw [hL.out]; exact Nat.le_trans (List.length_filter_le _ _) (Nat.le_trans (List.length_take_le _ _) (by omega))
    clear hR
    by_cases hjn : j < N
    · have hjr : j < r.cps.length := by rw [← HN.out]; exact hjn
      obtain ⟨cb, hca, -, hat⟩ := HX.out (by intro e; rw [e] at hjr; simp at hjr)
      subst hca
      have hxj := (hat j hjr).upd HUW.out (by simp)
      obtain ⟨x, hx⟩ : ∃ x, x = r.cps[j] := ⟨_, rfl⟩
      have HYES : Hid (r.due hh x = false → (r.cps.take (j + 1)).filter (fun c => !r.due hh c) = L ++ [x]) := fun hk => by rw [hL.out, hx]; exact rc_take_yes (p := fun c => !r.due hh c) hjr (by rw [← hx, hk]; rfl)
      have HNO : Hid (r.due hh x = true → (r.cps.take (j + 1)).filter (fun c => !r.due hh c) = L) := fun hk => by rw [hL.out]; exact rc_take_no (p := fun c => !r.due hh c) hjr (by rw [← hx, hk]; rfl)
      rw [← hx] at hxj
      obtain ⟨⟨x0, x1, x2⟩, xt⟩ := x
      obtain ⟨g0, g1, g2, g3⟩ := hxj
      simp only at g0 g1 g2 g3
      obtain ⟨rt, hrt⟩ : ∃ rt, rt = r.time := ⟨_, rfl⟩
      have HRT := Lib.hid hrt
      rw [← hrt] at e2 ht
      clear hx hrt hjr hat hL
      go_wp2_with fail
      generalize hW7 : wr.alloc (Obj.cells #[.int .i64 x0, .int .i64 x1, .string x2, .int .i64 (xt : Int)] 75) = W7
      have HU7 : Hid (Upd [] wr W7) := by rw [← hW7]; exact (Upd.refl _ _).alloc _
      have y0 : W7.cell? ⟨wr.heap.size, 0, none⟩ = some (.int .i64 x0) := by rw [← hW7]; simp
      have y1 : W7.cell? ⟨wr.heap.size, 1, none⟩ = some (.int .i64 x1) := by rw [← hW7]; simp
      have y2 : W7.cell? ⟨wr.heap.size, 2, none⟩ = some (.string x2) := by rw [← hW7]; simp
      have y3 : W7.cell? ⟨wr.heap.size, 3, none⟩ = some (.int .i64 xt) := by rw [← hW7]; simp
      clear hW7 g0 g1 g2 g3
      have z2 := HU7.out.cell e2 (by simp)
      have z3 := HU7.out.cell e3 (by simp)
      have HY := Lib.hid (show W7.cell? ⟨wr.heap.size, 0, none⟩ = some (.int .i64 x0) ∧ W7.cell? ⟨wr.heap.size, 1, none⟩ = some (.int .i64 x1) ∧ W7.cell? ⟨wr.heap.size, 2, none⟩ = some (.string x2) ∧ W7.cell? ⟨wr.heap.size, 3, none⟩ = some (.int .i64 xt) from ⟨y0, y1, y2, y3⟩)
      have r1 := fun p : After W7 => p.cell y1
      have r3 := fun p : After W7 => p.cell y3
      have r4 := fun p : After W7 => p.cell z2
      have r5 := fun p : After W7 => p.cell z3
      have HUp : Hid (∀ p : After W7, Upd [] wr p.w) := fun p => HU7.out.trans p.upd
      clear e2 e3 y0 y1 y2 y3 z2 z3
      by_cases hx1 : x1 = (hh : Int)
      case neg =>
        have hq1 : (x1 != (hh : Int)) = true := by rw [bne_iff_ne]; exact hx1
        have HD : Hid (r.due hh (⟨x0, x1, x2⟩, xt) = false) := Lib.hid (by simp [RS.due, hx1])
        clear hx1
        refine region_all (by kernel_rfl) (by kernel_rfl) ?_
        repeat (go_big_quiet_step (fail))
        refine wpQuiet_nil ?_
        rintro _ ⟨p, rfl⟩
        obtain ⟨d0, d1, d2, d3⟩ := HY.out
        have d0 := p.cell d0
        have d1 := p.cell d1
        have d2 := p.cell d2
        have d3 := p.cell d3
        have HP0 : Hid (Upd [] wr p.w) := HUp.out p
        obtain ⟨W8, hW8⟩ : ∃ W8, W8 = p.w := ⟨_, rfl⟩
        rw [← hW8] at HP0 d0 d1 d2 d3
        rw [← hW8]
        clear hW8 r1 r3 r4 r5 p
        have HKA : Hid (∀ o, CpsAt (W8.alloc o) w2.heap.size (.slice ka L.length kc) L) := fun o => (HKC.out.upd fun b hb => HP0.out.block b (HKC.out.lt b hb) (by simp)).alloc o
        have HNW : Hid (∀ ob : Obj, ob = .cells #[.int .i64 x0, .int .i64 x1, .string x2, .int .i64 (xt : Int)] 75 (0, 0) → ∀ j u, ([((⟨x0, x1, x2⟩, xt) : Rc)].flatMap rcVals)[j]? = some u → (W8.alloc ob).cell? ((⟨W8.heap.size, 0, none⟩ : Addr).add j) = some u) := by
          intro ob hob j u hj
          rw [Addr.add_lit, cell_of_row _ W8.heap.size (0 + j) _ 75 (0, 0) (by rw [hob]; exact heap_alloc_new W8 _)]
          rw [Nat.zero_add]; simpa [rcVals] using hj
        have hll2 : L.length + [((⟨x0, x1, x2⟩, xt) : Rc)].length ≤ 100000 := by simp; omega
        have HBS : Hid (w2.heap.size ≤ W8.heap.size) := Nat.le_trans HU2W.out.size HP0.out.size
        go_wp2_with (at_builtin; (refine wpList_append_cps rfl _ _ rfl w2.heap.size _ L rfl (HKA.out _) ⟨W8.heap.size, 0, none⟩ 1 [((⟨x0, x1, x2⟩, xt) : Rc)] rfl (HNW.out _ rfl) Nat.zero_lt_one hll2 (by have := HBS.out; simp; omega) ?_); intro g6 cap6 w6 hp1 hg1 hw1)
        have HFN : Hid (CpsAt w6 w2.heap.size (.slice (some ⟨g6, 0, none⟩) (L ++ [((⟨x0, x1, x2⟩, xt) : Rc)]).length cap6) (L ++ [((⟨x0, x1, x2⟩, xt) : Rc)]) ∧ Upd [] w w6 ∧ Upd [] w2 w6) := by
          have hu6 : Upd (Value.slice ka L.length kc).ownBlock.toList W8 w6 := ((Upd.refl _ W8).alloc _).grown hg1.out (fun k' hk' => .inl (by have e : (Value.slice ka L.length kc).ownBlock = some k' := hk'; rw [e]; simp))
          have hge : ∀ i ∈ (Value.slice ka L.length kc).ownBlock.toList, w2.heap.size ≤ i := fun i hi => HKC.out.ge i (by simpa using hi)
          refine ⟨?_, (HUW.out.trans HP0.out).then hu6 (fun i hi => .inr (Nat.le_trans HU2.out.size (hge i hi))), (HU2W.out.trans HP0.out).then hu6 (fun i hi => .inr (hge i hi))⟩
          rw [List.length_append]
          exact hp1.out
        exact ⟨⟨j + 1, by omega, by go_num, L ++ [((⟨x0, x1, x2⟩, xt) : Rc)], some ⟨g6, 0, none⟩, cap6, by rw [List.length_append]; rfl, Lib.hid (HYES.out HD.out).symm, HFN⟩, by simp [intOf]; omega⟩
      have hq1 : (x1 != (hh : Int)) = false := by rw [hx1]; simp
      by_cases hxt : xt ≤ rt
      case neg =>
        have hq2 : decide ((rt : Int) < (xt : Int)) = true := by rw [decide_eq_true_eq]; omega
        have hq3 : decide (rt < xt) = true := by rw [decide_eq_true_eq]; omega
        have HD : Hid (r.due hh (⟨x0, x1, x2⟩, xt) = false) := Lib.hid (by simp [RS.due]; intro _; rw [← HRT.out]; omega)
        clear hx1
        refine region_all (by kernel_rfl) (by kernel_rfl) ?_
        repeat (go_big_quiet_step (fail))
        refine wpQuiet_nil ?_
        rintro _ ⟨p, rfl⟩
        obtain ⟨d0, d1, d2, d3⟩ := HY.out
        have d0 := p.cell d0
        have d1 := p.cell d1
        have d2 := p.cell d2
        have d3 := p.cell d3
        have HP0 : Hid (Upd [] wr p.w) := HUp.out p
        obtain ⟨W8, hW8⟩ : ∃ W8, W8 = p.w := ⟨_, rfl⟩
        rw [← hW8] at HP0 d0 d1 d2 d3
        rw [← hW8]
        clear hW8 r1 r3 r4 r5 p
        have HKA : Hid (∀ o, CpsAt (W8.alloc o) w2.heap.size (.slice ka L.length kc) L) := fun o => (HKC.out.upd fun b hb => HP0.out.block b (HKC.out.lt b hb) (by simp)).alloc o
        have HNW : Hid (∀ ob : Obj, ob = .cells #[.int .i64 x0, .int .i64 x1, .string x2, .int .i64 (xt : Int)] 75 (0, 0) → ∀ j u, ([((⟨x0, x1, x2⟩, xt) : Rc)].flatMap rcVals)[j]? = some u → (W8.alloc ob).cell? ((⟨W8.heap.size, 0, none⟩ : Addr).add j) = some u) := by
          intro ob hob j u hj
          rw [Addr.add_lit, cell_of_row _ W8.heap.size (0 + j) _ 75 (0, 0) (by rw [hob]; exact heap_alloc_new W8 _)]
          rw [Nat.zero_add]; simpa [rcVals] using hj
        have hll2 : L.length + [((⟨x0, x1, x2⟩, xt) : Rc)].length ≤ 100000 := by simp; omega
        have HBS : Hid (w2.heap.size ≤ W8.heap.size) := Nat.le_trans HU2W.out.size HP0.out.size
        go_wp2_with (at_builtin; (refine wpList_append_cps rfl _ _ rfl w2.heap.size _ L rfl (HKA.out _) ⟨W8.heap.size, 0, none⟩ 1 [((⟨x0, x1, x2⟩, xt) : Rc)] rfl (HNW.out _ rfl) Nat.zero_lt_one hll2 (by have := HBS.out; simp; omega) ?_); intro g6 cap6 w6 hp1 hg1 hw1)
        have HFN : Hid (CpsAt w6 w2.heap.size (.slice (some ⟨g6, 0, none⟩) (L ++ [((⟨x0, x1, x2⟩, xt) : Rc)]).length cap6) (L ++ [((⟨x0, x1, x2⟩, xt) : Rc)]) ∧ Upd [] w w6 ∧ Upd [] w2 w6) := by
          have hu6 : Upd (Value.slice ka L.length kc).ownBlock.toList W8 w6 := ((Upd.refl _ W8).alloc _).grown hg1.out (fun k' hk' => .inl (by have e : (Value.slice ka L.length kc).ownBlock = some k' := hk'; rw [e]; simp))
          have hge : ∀ i ∈ (Value.slice ka L.length kc).ownBlock.toList, w2.heap.size ≤ i := fun i hi => HKC.out.ge i (by simpa using hi)
          refine ⟨?_, (HUW.out.trans HP0.out).then hu6 (fun i hi => .inr (Nat.le_trans HU2.out.size (hge i hi))), (HU2W.out.trans HP0.out).then hu6 (fun i hi => .inr (hge i hi))⟩
          rw [List.length_append]
          exact hp1.out
        exact ⟨⟨j + 1, by omega, by go_num, L ++ [((⟨x0, x1, x2⟩, xt) : Rc)], some ⟨g6, 0, none⟩, cap6, by rw [List.length_append]; rfl, Lib.hid (HYES.out HD.out).symm, HFN⟩, by simp [intOf]; omega⟩
      have hq2 : decide ((rt : Int) < (xt : Int)) = false := by rw [decide_eq_false_iff_not]; omega
      have hq3 : decide (rt < xt) = false := by rw [decide_eq_false_iff_not]; omega
      have HD : Hid (r.due hh (⟨x0, x1, x2⟩, xt) = true) := Lib.hid (by simp only [RS.due, hx1, decide_true, Bool.true_and, decide_eq_true_eq]; rw [← HRT.out]; exact hxt)
      clear hx1
      refine region_all (by kernel_rfl) (by kernel_rfl) ?_
      repeat (go_big_quiet_step (fail))
      refine wpQuiet_nil ?_
      rintro _ ⟨p, rfl⟩
      have HKP : Hid (CpsAt p.w w2.heap.size (.slice ka L.length kc) L ∧ Upd [] w p.w ∧ Upd [] w2 p.w) := ⟨HKC.out.upd fun b hb => (HUp.out p).block b (HKC.out.lt b hb) (by simp), HUW.out.trans (HUp.out p), HU2W.out.trans (HUp.out p)⟩
      go_wp2
      exact ⟨⟨j + 1, by omega, by go_num, L, ka, kc, rfl, Lib.hid (HNO.out HD.out).symm, HKP⟩, by simp [intOf]; omega⟩
    · have hje : j = N := by omega
      have hLe : L = (r.recv hh).cps := by rw [hL.out, hje, HN.out, List.take_length]; rfl
      have HFIN : Hid (RPost base f (r.recv hh) w (wr.setCell ⟨f.B, 3, none⟩ (.slice ka L.length kc))) := by
        have h1 := HH.out.setC (w' := wr) (L := L) HC3.out (HKC.out.mono (Nat.le_trans hb0 HU2.out.size)) (HUW.out.mono (by simp)) (by
          cases ho : (Value.slice ka L.length kc).ownBlock with
          | none => exact .inr (.inl rfl)
          | some g => exact .inr (.inr ⟨g, rfl, Nat.le_trans HU2.out.size (HKC.out.ge g ho)⟩))
        rw [hLe] at h1 ⊢
        exact h1
      have HPK : Hid (PkList (wr.setCell ⟨f.B, 3, none⟩ (.slice ka L.length kc)) (.slice va gn vc) (r.got hh)) := by
        have h1 : PksAt wr w.heap.size (.slice va gn vc) (r.got hh) := HV2.out.upd fun b hb => HU2W.out.block b (HV2.out.lt b hb) (by simp)
        exact PksAt.read (h1.upd fun b hb => Below.heap_setCell _ _ _ _ (by have := h1.ge b hb; have := HBL.out; simp; omega))
      have tz : wr.frozen? ⟨f.B, 3, none⟩ = false := (HUW.out.frozen HBL.out (by simp)).trans (HCZ.out 3)
      clear hL hLe
      go_wp2_with fail
      go_ret2
      exact ⟨_, rfl, HPK.out, HFIN.out⟩
end Go.Proofs.Ytlmfgdibodpniaa
