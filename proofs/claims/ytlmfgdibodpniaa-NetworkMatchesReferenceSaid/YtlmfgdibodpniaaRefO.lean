/- The reference network, walked: ordered. -/
import Derived.Test.YtlmfgdibodpniaaRefS
namespace Go.Proofs.Ytlmfgdibodpniaa
open Go.RowKit

theorem info4 : (Try.prog.info? 4).map (fun i => (i.zero, i.size, i.bytes)) = some (some (.bool false), 1, 1) := by kernel_rfl
theorem made4 (n : Nat) : madeCells #[.bool false] n = (List.replicate n (Value.bool false)).toArray := by
  apply Array.ext'
  apply List.ext_getElem?
  intro i
  by_cases hi : i < n
  · simp [madeCells, hi, Nat.mod_one]
  · simp [madeCells, hi]

def doneRow (N : Nat) (T : List Nat) : Obj := .cells ((List.range N).map fun i => Value.bool (decide (i ∈ T))).toArray 4 (0, 0)
theorem doneRow_nil (N : Nat) : doneRow N [] = .cells (Array.replicate N (Value.bool false)) 4 (0, 0) := by
  unfold doneRow
  rw [← List.toArray_replicate]
  congr 2
  apply List.ext_getElem
  · simp
  · intro i h1 h2; simp
theorem doneRow_set (N : Nat) (T : List Nat) (x : Nat) : (((List.range N).map fun i => Value.bool (decide (i ∈ T))).toArray).setIfInBounds x (.bool true) = ((List.range N).map fun i => Value.bool (decide (i ∈ T ++ [x]))).toArray := by
  rw [List.setIfInBounds_toArray]
  congr 1
  apply List.ext_getElem
  · simp
  · intro i h1 h2
    rw [List.getElem_set]
    simp only [List.getElem_map, List.getElem_range, List.mem_append, List.mem_singleton]
    by_cases e : x = i
    · subst e; simp
    · rw [if_neg e]
      have : ¬ i = x := fun h => e h.symm
      simp [this]

section
variable {key : Nat → Nat} {c : Nat → Bool} {j b : Nat}
theorem bestF_no (h : c j = false) : bestF key c (j + 1) = bestF key c j := by
  rw [bestF]
  cases hb : bestF key c j <;> simp [h]
theorem bestF_first (h : c j = true) (hb : bestF key c j = none) : bestF key c (j + 1) = some j := by rw [bestF, hb]; simp [h]
theorem bestF_less (h : c j = true) (hb : bestF key c j = some b) (hl : key j < key b) : bestF key c (j + 1) = some j := by rw [bestF, hb]; simp [h, hl]
theorem bestF_keep (hb : bestF key c j = some b) (hl : ¬ key j < key b) : bestF key c (j + 1) = some b := by rw [bestF, hb]; simp [hl]
end
def bestV : Option Nat → Value
  | none => .int .i64 (-1)
  | some b => .int .i64 b

set_option maxRecDepth 100000 in
set_option maxHeartbeats 8000000 in
theorem ordered_any {w : World} {base : Nat} {f : RFoot} {r : RS} (h : RefAt w base f r) (hcl : r.cps.length ≤ 100000) (ht : r.time ≤ 1000000) (hh : Nat) (hh12 : hh ≤ 12) :
    Calls Try.prog 37 #[.pointer (some ⟨f.B, 0, none⟩), .int .i64 hh] w fun e w' => ∃ v, e = .returned v ∧ PksAt w' w.heap.size v (r.got hh) ∧ Upd [] w w' := by
  obtain ⟨fv, cv, -, -, c2, c3, -, -, -, h3, -⟩ := h.cells
  obtain ⟨ca, cc, rfl, hx⟩ := h3.read
  obtain ⟨N, hN⟩ : ∃ N, N = r.cps.length := ⟨_, rfl⟩
  rw [← hN] at c3
  have HN := Lib.hid hN
  have HC2 := Lib.hid c2
  have HC3 := Lib.hid c3
  have HX := Lib.hid hx
  have hN1 : N ≤ 100000 := by rw [hN]; exact hcl
  obtain ⟨S, hS⟩ : ∃ S, S = r.sel hh := ⟨_, rfl⟩
  have HS := Lib.hid hS
  have HBEST : Hid (∀ k, k ≤ S.length → bestF r.key (fun i => r.due hh (r.cps.getD i default) && !decide (i ∈ S.take k)) N = S[k]?) := fun k hk => by rw [hN, hS]; exact r.best hh k (by rw [← hS]; exact hk)
  have HMEM : Hid (∀ i, i ∈ S → i < N) := fun i hi => by rw [hS] at hi; rw [hN]; exact ((r.sel_mem hh i).1 hi).1
  have HGOT : Hid (S.map (fun i => (r.cps.getD i default).1) = r.got hh) := by rw [hS]; exact r.sel_got hh
  have hSl : S.length ≤ N := by
    rw [hS, r.sel_len, hN]
    unfold RS.got
    rw [List.length_map, isort_len]
    exact List.length_filter_le _ _
  have hmk := run_make_row' (P := Try.prog) 81 4 (.bool false) 1 Try.underlying81 info4 rfl .i64 .i64 N (by omega) (by omega)
  rw [made4] at hmk
  have hrt1 := ht
  clear h h3 hx hcl hN hS ht
  go_enter Try.func37, Try.ntmps37
  go_wp2_with fail
  generalize hW1 : w.alloc (Obj.cells (Array.replicate N (Value.bool false)) 4) = W1
  have HU1 : Hid (Upd [] w W1) := by rw [← hW1]; exact (Upd.refl _ _).alloc _
  have HD1 : Hid (W1.heap[w.heap.size]? = some (doneRow N [])) := Lib.hid (by rw [← hW1, doneRow_nil]; exact heap_alloc_new _ _)
  have HZ1 : Hid (W1.heap.size = w.heap.size + 1) := Lib.hid (by rw [← hW1]; simp)
  clear hW1 hmk c2 c3
  go_loopw [6] (fun ov wr => ∃ k : Nat, k ≤ S.length ∧ ∃ oa oc, ov = .slice oa k oc ∧ Hid (PksAt wr (w.heap.size + 1) (.slice oa k oc) ((S.take k).map fun i => (r.cps.getD i default).1)) ∧ Hid (Upd [] W1 wr ∨ True) ∧ Hid (Upd [] w wr ∧ W1.heap.size ≤ wr.heap.size) ∧ Hid (wr.heap[w.heap.size]? = some (doneRow N (S.take k)))) (fun ov _ => S.length - sliceLen ov)
  case atStart => exact ⟨0, Nat.zero_le _, none, 0, rfl, World.ownsRow_nil _ _ _ _, Lib.hid (.inr trivial), Lib.hid ⟨HU1.out, Nat.le_refl _⟩, HD1⟩
  case round =>
    obtain ⟨k, hk, oa, oc, rfl, hP, -, hU, hD⟩ := hrel
    obtain ⟨wk, rfl⟩ : ∃ wk : World, wk = wr := ⟨_, rfl⟩
    obtain ⟨c, hc⟩ : ∃ c : Nat → Bool, c = fun i => r.due hh (r.cps.getD i default) && !decide (i ∈ S.take k) := ⟨_, rfl⟩
    have HC := Lib.hid hc
    have HB : Hid (bestF r.key c N = S[k]?) := by rw [hc]; exact HBEST.out k hk
    have HDC : Hid (∀ W, Upd [] wk W → ∀ i, i < N → W.cell? ⟨w.heap.size, i, none⟩ = some (.bool (decide (i ∈ S.take k)))) := by
      intro W hW i hi
      rw [cell_of_row W w.heap.size i _ 4 (0, 0) (by rw [hW.block _ (Array.getElem?_eq_some_iff.1 hD.out).1 (by simp)]; exact hD.out)]
      simp [hi]
    clear hc
    go_wp2_with fail
    go_loopw [7, 8] (fun bv i wr => ∃ j : Nat, j ≤ N ∧ i = .int .i64 j ∧ ∃ bo, bv = bestV bo ∧ Hid (bo = bestF r.key c j) ∧ Hid (Upd [] wk wr)) (fun _ i _ => N - (intOf i).toNat)
    case atStart => exact ⟨0, Nat.zero_le _, rfl, none, rfl, Lib.hid rfl, Upd.refl _ _⟩
    case round =>
      obtain ⟨j, hj, rfl, bo, rfl, hbo, hu⟩ := hrel
      have HUW : Hid (Upd [] w wr) := hU.out.1.trans hu.out
      have e2 := HUW.out.cell HC2.out (by simp)
      have e3 := HUW.out.cell HC3.out (by simp)
      by_cases hjn : j < N
      · have hjr : j < r.cps.length := by rw [← HN.out]; exact hjn
        obtain ⟨cb, hca, -, hat⟩ := HX.out (by intro e; rw [e] at hjr; simp at hjr)
        subst hca
        have hxj := (hat j hjr).upd HUW.out (by simp)
        have hgj : r.cps.getD j default = r.cps[j] := by rw [List.getD_eq_getElem?_getD, List.getElem?_eq_getElem hjr]; rfl
        have hcj : c j = (decide ((r.cps[j]).1.dst = (hh : Int)) && decide ((r.cps[j]).2 ≤ r.time) && !decide (j ∈ S.take k)) := by rw [HC.out]; simp only [hgj, RS.due]
        have hkj : r.key j = (r.cps[j]).2 := by unfold RS.key; rw [hgj]
        have edn := HDC.out _ hu.out j hjn
        obtain ⟨dn, hdn⟩ : ∃ dn, dn = decide (j ∈ S.take k) := ⟨_, rfl⟩
        obtain ⟨x, hx⟩ : ∃ x, x = r.cps[j] := ⟨_, rfl⟩
        rw [← hdn] at edn hcj
        rw [← hx] at hxj hcj hkj
        obtain ⟨⟨x0, x1, x2⟩, xt⟩ := x
        obtain ⟨g0, g1, g2, g3⟩ := hxj
        simp only at g0 g1 g2 g3 hcj hkj
        obtain ⟨rt, hrt⟩ : ∃ rt, rt = r.time := ⟨_, rfl⟩
        rw [← hrt] at hcj e2 hrt1
        have HCJ := Lib.hid hcj
        have HKJ := Lib.hid hkj
        clear hcj hkj hgj hx hdn hrt hjr
        go_wp2_with fail
        generalize hW7 : wr.alloc (Obj.cells #[.int .i64 x0, .int .i64 x1, .string x2, .int .i64 (xt : Int)] 75) = W7
        have HU7 : Hid (Upd [] wr W7) := by rw [← hW7]; exact (Upd.refl _ _).alloc _
        have y0 : W7.cell? ⟨wr.heap.size, 0, none⟩ = some (.int .i64 x0) := by rw [← hW7]; simp
        have y1 : W7.cell? ⟨wr.heap.size, 1, none⟩ = some (.int .i64 x1) := by rw [← hW7]; simp
        have y3 : W7.cell? ⟨wr.heap.size, 3, none⟩ = some (.int .i64 xt) := by rw [← hW7]; simp
        clear hW7 g0 g1 g2 g3
        have z2 := HU7.out.cell e2 (by simp)
        have z3 := HU7.out.cell e3 (by simp)
        have zd := HU7.out.cell edn (by simp)
        have r1 := fun p : After W7 => p.cell y1
        have r3 := fun p : After W7 => p.cell y3
        have r4 := fun p : After W7 => p.cell z2
        have r5 := fun p : After W7 => p.cell z3
        have HUp : Hid (∀ p : After W7, Upd [] wk p.w) := fun p => (hu.out.trans HU7.out).trans p.upd
        have HATW : Hid (∀ i, (hi : i < r.cps.length) → RcAt W7 cb (i * 4) r.cps[i]) := fun i hi => (hat i hi).upd (HUW.out.trans HU7.out) (by simp)
        have hjnI : (j : Int) < (N : Int) := by omega
        clear e2 e3 edn y0 y1 y3 z2 z3 hat
        cases dn with
        | true =>
          have r6 := fun p : After W7 => p.cell zd
          clear zd
          refine region_all (by kernel_rfl) (by kernel_rfl) ?_
          repeat (go_big_quiet_step (fail))
          refine wpQuiet_nil ?_
          rintro _ ⟨p, rfl⟩
          go_wp2
          exact ⟨⟨j + 1, by omega, by go_num, bo, rfl, Lib.hid (by rw [bestF_no (by rw [HCJ.out]; simp)]; exact hbo.out), HUp.out p⟩, by simp [intOf]; omega⟩
        | false =>
          have r6 := fun p : After W7 => p.cell zd
          clear zd
          by_cases hx1 : x1 = (hh : Int)
          case neg =>
            have hq1 : (x1 == (hh : Int)) = false := by rw [beq_eq_false_iff_ne]; exact hx1
            have HX1 := Lib.hid hx1
            clear hx1
            refine region_all (by kernel_rfl) (by kernel_rfl) ?_
            repeat (go_big_quiet_step (fail))
            refine wpQuiet_nil ?_
            rintro _ ⟨p, rfl⟩
            go_wp2
            exact ⟨⟨j + 1, by omega, by go_num, bo, rfl, Lib.hid (by rw [bestF_no (by rw [HCJ.out]; simp [HX1.out])]; exact hbo.out), HUp.out p⟩, by simp [intOf]; omega⟩
          have hq1 : (x1 == (hh : Int)) = true := by rw [hx1]; simp
          have HX1 := Lib.hid hx1
          clear hx1
          by_cases hxt : xt ≤ rt
          case neg =>
            have hq2 : decide ((xt : Int) ≤ (rt : Int)) = false := by rw [decide_eq_false_iff_not]; omega
            have hq3 : decide (xt ≤ rt) = false := by rw [decide_eq_false_iff_not]; exact hxt
            have HXT := Lib.hid hxt
            refine region_all (by kernel_rfl) (by kernel_rfl) ?_
            repeat (go_big_quiet_step (fail))
            refine wpQuiet_nil ?_
            rintro _ ⟨p, rfl⟩
            go_wp2
            exact ⟨⟨j + 1, by omega, by go_num, bo, rfl, Lib.hid (by rw [bestF_no (by rw [HCJ.out]; simp [HXT.out])]; exact hbo.out), HUp.out p⟩, by simp [intOf]; omega⟩
          have hq2 : decide ((xt : Int) ≤ (rt : Int)) = true := by rw [decide_eq_true_eq]; omega
          have hq3 : decide (xt ≤ rt) = true := by rw [decide_eq_true_eq]; exact hxt
          have HCT : Hid (c j = true) := by unfold Hid; rw [HCJ.out]; simp [HX1.out, hxt]
          cases bo with
          | none =>
            have hbn := hbo.out.symm
            have HBN := Lib.hid hbn
            clear hbn hbo
            unfold bestV
            refine region_all (by kernel_rfl) (by kernel_rfl) ?_
            repeat (go_big_quiet_step (fail))
            refine wpQuiet_nil ?_
            rintro _ ⟨p, rfl⟩
            go_wp2
            exact ⟨⟨j + 1, by omega, by go_num, some j, rfl, Lib.hid (by rw [bestF_first HCT.out HBN.out]), HUp.out p⟩, by simp [intOf]; omega⟩
          | some b =>
            have hbb : b < j := ((bestF_spec r.key c j).2 b hbo.out.symm).1
            have hbr : b < r.cps.length := by rw [← HN.out]; omega
            have hgb : r.cps.getD b default = r.cps[b] := by rw [List.getD_eq_getElem?_getD, List.getElem?_eq_getElem hbr]; rfl
            have zb := (HATW.out b hbr).c3
            have hkb : r.key b = (r.cps[b]).2 := by unfold RS.key; rw [hgb]
            obtain ⟨kb, hkbe⟩ : ∃ kb, kb = (r.cps[b]).2 := ⟨_, rfl⟩
            rw [← hkbe] at zb hkb
            have HKB := Lib.hid hkb
            have r7 := fun p : After W7 => p.cell zb
            have hq4 : decide ((b : Int) < 0) = false := by rw [decide_eq_false_iff_not]; omega
            have hq5 : ¬ (b : Int) < 0 := by omega
            have hq6 : (b : Int) < (N : Int) := by omega
            have hbN : b < N := by omega
            have HBO := hbo
            clear zb hkb hkbe hgb hbr hbo
            unfold bestV
            by_cases hlk : xt < kb
            · have hq7 : decide ((xt : Int) < (kb : Int)) = true := by rw [decide_eq_true_eq]; omega
              have hq8 : decide (xt < kb) = true := by rw [decide_eq_true_eq]; exact hlk
              have HLK := Lib.hid hlk
              refine region_all (by kernel_rfl) (by kernel_rfl) ?_
              repeat (go_big_quiet_step (fail))
              refine wpQuiet_nil ?_
              rintro _ ⟨p, rfl⟩
              go_wp2
              exact ⟨⟨j + 1, by omega, by go_num, some j, rfl, Lib.hid (by rw [bestF_less HCT.out HBO.out.symm (by rw [HKJ.out, HKB.out]; exact HLK.out)]), HUp.out p⟩, by simp [intOf]; omega⟩
            · have hq7 : decide ((xt : Int) < (kb : Int)) = false := by rw [decide_eq_false_iff_not]; omega
              have hq8 : decide (xt < kb) = false := by rw [decide_eq_false_iff_not]; exact hlk
              have HLK := Lib.hid hlk
              refine region_all (by kernel_rfl) (by kernel_rfl) ?_
              repeat (go_big_quiet_step (fail))
              refine wpQuiet_nil ?_
              rintro _ ⟨p, rfl⟩
              go_wp2
              exact ⟨⟨j + 1, by omega, by go_num, some b, rfl, Lib.hid (by rw [bestF_keep HBO.out.symm (by rw [HKJ.out, HKB.out]; exact HLK.out)]), HUp.out p⟩, by simp [intOf]; omega⟩
      · have hje : j = N := by omega
        have hbe : bo = S[k]? := by rw [hbo.out, hje, HB.out]
        rcases Nat.lt_or_ge k S.length with hlt | hge
        · rw [List.getElem?_eq_getElem hlt] at hbe
          obtain ⟨b, hb⟩ : ∃ b, b = S[k] := ⟨_, rfl⟩
          rw [← hb] at hbe
          subst hbe
          have hbS : b ∈ S := by rw [hb]; exact List.getElem_mem hlt
          have hbN : b < N := HMEM.out b hbS
          have hbr : b < r.cps.length := by rw [← HN.out]; exact hbN
          obtain ⟨cb, hca, -, hat⟩ := HX.out (by intro e; rw [e] at hbr; simp at hbr)
          subst hca
          have hgb : r.cps.getD b default = r.cps[b] := by rw [List.getD_eq_getElem?_getD, List.getElem?_eq_getElem hbr]; rfl
          have HTK : Hid (S.take (k + 1) = S.take k ++ [b]) := by rw [hb]; exact List.take_succ_eq_append_getElem hlt
          obtain ⟨x, hx⟩ : ∃ x, x = r.cps[b] := ⟨_, rfl⟩
          have hatb := hat b hbr
          rw [← hx] at hatb hgb
          obtain ⟨⟨x0, x1, x2⟩, xt⟩ := x
          have HGB := Lib.hid hgb
          have hcbl : cb < w.heap.size := World.block_lt_of_cell? _ _ hatb.c0
          have hDr : wr.heap[w.heap.size]? = some (doneRow N (S.take k)) := by rw [hu.out.block _ (Array.getElem?_eq_some_iff.1 hD.out).1 (by simp)]; exact hD.out
          have hDlt : w.heap.size < wr.heap.size := (Array.getElem?_eq_some_iff.1 hDr).1
          have td : wr.cell? ⟨w.heap.size, b, none⟩ = some (.bool (decide (b ∈ S.take k))) := HDC.out _ hu.out b hbN
          have tz : wr.frozen? ⟨w.heap.size, b, none⟩ = false := by simp [World.frozen?, hDr, doneRow]
          have hq5 : ¬ (b : Int) < 0 := by omega
          have hq4 : decide ((b : Int) < 0) = false := by rw [decide_eq_false_iff_not]; omega
          have hq6 : (b : Int) < (N : Int) := by omega
          have HDR := Lib.hid hDr
          have HAB := Lib.hid hatb
          have HDL := Lib.hid hDlt
          clear hx hat hatb hgb hbS hbr hb hDr hDlt e2 hbo
          unfold bestV
          go_upto_region 13 with fail
          generalize hWS : wr.setCell ⟨w.heap.size, b, none⟩ (.bool true) = WS
          have HUS : Hid (Upd [w.heap.size] wr WS) := by rw [← hWS]; exact (Upd.refl _ _).setCell (.inl (by simp)) _
          have HUSw : Hid (Upd [] w WS) := by rw [← hWS]; exact HUW.out.setCell (.inr (Nat.le_refl _)) _
          have HDS : Hid (WS.heap[w.heap.size]? = some (doneRow N (S.take (k + 1)))) := Lib.hid (by
            rw [← hWS, heap_setCell_self HDR.out, doneRow_set, HTK.out]; rfl)
          clear hWS td tz e3
          have e3 := HUSw.out.cell HC3.out (by simp)
          obtain ⟨g0, g1, g2, -⟩ := HAB.out.upd HUSw.out (by simp)
          simp only at g0 g1 g2
          have HPS : Hid (PksAt WS (w.heap.size + 1) (.slice oa k oc) ((S.take k).map fun i => (r.cps.getD i default).1)) :=
            (hP.out.upd fun b hb => hu.out.block b (hP.out.lt b hb) (by simp)).upd fun b hb => HUS.out.block b (by have := hP.out.lt b hb; have := hu.out.size; omega) (by have := hP.out.ge b hb; simp; omega)
          have hll : ((S.take k).map fun i => (r.cps.getD i default).1).length ≤ 100000 := by rw [List.length_map, List.length_take]; omega
          have hlk : ((S.take k).map fun i => (r.cps.getD i default).1).length = k := by rw [List.length_map, List.length_take]; omega
          have HLK := Lib.hid hlk
          have HZS : Hid (w.heap.size + 1 ≤ WS.heap.size) := by have h1 := HUS.out.size; have h2 := HDL.out; exact (by omega : w.heap.size + 1 ≤ WS.heap.size)
          have HPA : Hid (∀ o, PksAt (WS.alloc o) (w.heap.size + 1) (.slice oa k oc) ((S.take k).map fun i => (r.cps.getD i default).1)) := fun o => HPS.out.alloc o
          clear hlk
          go_wp2_with (at_builtin; (refine wpList_append_pk rfl _ _ rfl (w.heap.size + 1) _ ((S.take k).map fun i => (r.cps.getD i default).1) rfl (HPA.out _) WS.heap.size ⟨x0, x1, x2⟩ rfl (heap_alloc_new WS _) hll (by have := HZS.out; simp; omega) ?_); intro g cap w6 hp1 hg1 hw1)
          have HFN : Hid (PksAt w6 (w.heap.size + 1) (.slice (some ⟨g, 0, none⟩) (k + 1) cap) ((S.take (k + 1)).map fun i => (r.cps.getD i default).1) ∧ Upd [] w w6 ∧ w6.heap[w.heap.size]? = some (doneRow N (S.take (k + 1)))) := by
            have hu6 : Upd (Value.slice oa k oc).ownBlock.toList WS w6 := ((Upd.refl _ WS).alloc _).grown hg1.out (fun k' hk' => .inl (by have e : (Value.slice oa k oc).ownBlock = some k' := hk'; rw [e]; simp))
            refine ⟨?_, ?_, ?_⟩
            · have h1 := hp1.out
              rw [HLK.out] at h1
              rw [HTK.out, List.map_append, List.map_cons, List.map_nil, HGB.out]
              exact h1
            · exact HUSw.out.then hu6 (fun i hi => .inr (by have := HPS.out.ge i (by simpa using hi); omega))
            · rw [hu6.block _ (Nat.lt_of_succ_le HZS.out) (fun hm => by have := HPS.out.ge w.heap.size (by simpa using hm); omega)]
              exact HDS.out
          exact ⟨⟨k + 1, by omega, some ⟨g, 0, none⟩, cap, by first | rfl | (rw [HLK.out]), Lib.hid HFN.out.1, Lib.hid (.inr trivial), Lib.hid ⟨HFN.out.2.1, by have h1 := HZ1.out; have h2 : w.heap.size < w6.heap.size := (Array.getElem?_eq_some_iff.1 HFN.out.2.2).1; omega⟩, Lib.hid HFN.out.2.2⟩, by simp [sliceLen, HLK.out]; omega⟩
        · have hke : k = S.length := by omega
          rw [List.getElem?_eq_none hge] at hbe
          subst hbe
          have HFIN : Hid (PksAt wr w.heap.size (.slice oa k oc) (r.got hh)) := by
            have h1 := hP.out
            rw [hke, List.take_length, HGOT.out, ← hke] at h1
            exact (h1.mono (Nat.le_succ _)).upd fun b hb => hu.out.block b (hP.out.lt b hb) (by simp)
          unfold bestV
          go_wp2_with fail
          go_ret
          exact ⟨_, rfl, HFIN.out, HUW.out⟩
end Go.Proofs.Ytlmfgdibodpniaa
