/- NetworkEnds, walked. -/
import Derived.Test.YtlmfgdibodpniaaEndsP
namespace Go.Proofs.Ytlmfgdibodpniaa
open Go.RowKit

/-! ### Rows of operations -/
def OpsAt (w : World) (base : Nat) (v : Value) (L : List OpR) : Prop := w.ownsRow base 33 5 v L.length (L.flatMap opVals)
theorem info33 : (Try.prog.info? 33).map (fun i => (i.zero, i.size, i.bytes)) = some (some (.agg #[.int .i64 0, .int .i64 0, .int .i64 0, .int .i64 0, .string ByteArray.empty]), 5, 48) := by kernel_rfl
theorem ops5_len (l : List OpR) : (l.flatMap opVals).length = l.length * 5 := by
  induction l with
  | nil => rfl
  | cons a l ih => simp only [List.flatMap_cons, List.length_append, ih, List.length_cons, opVals, pkVals, List.length_nil]; omega
theorem op_one {l : List OpR} {u : Value} (h : u ∈ l.flatMap opVals) : u.oneCell' = true := by
  obtain ⟨c, _, hu⟩ := List.mem_flatMap.1 h
  simp only [opVals, pkVals, List.mem_cons, List.not_mem_nil, or_false] at hu
  rcases hu with rfl | rfl | rfl | rfl | rfl <;> rfl
theorem ops5_get (l : List OpR) (i j : Nat) (hi : i < l.length) (hj : j < 5) : (l.flatMap opVals)[i * 5 + j]? = (opVals l[i])[j]? := by
  induction l generalizing i with
  | nil => simp at hi
  | cons a l ih =>
    cases i with
    | zero => rw [List.flatMap_cons, Nat.zero_mul, Nat.zero_add, List.getElem?_append_left (by simpa [opVals, pkVals] using hj)]; rfl
    | succ i =>
      have e : (i + 1) * 5 + j = 5 + (i * 5 + j) := by omega
      have h3 : (opVals a).length = 5 := rfl
      rw [List.flatMap_cons, e, List.getElem?_append_right (by rw [h3]; omega), h3]
      have e2 : 5 + (i * 5 + j) - 5 = i * 5 + j := by omega
      rw [e2, ih i (by simpa using hi)]
      rfl
theorem OpsAt.args {w : World} {base : Nat} {a : Option Addr} {c : Nat} {L : List OpR} (h : OpsAt w base (.slice a L.length c) L) (hl : L.length ≤ maxLen) (ht : ∀ x ∈ L, x.p.body.size ≤ maxLen) : ArgOps w a L ∧ (L ≠ [] → ∀ b o, a = some ⟨b, o, none⟩ → base ≤ b) := by
  have h0 : w.ownsRow base 33 5 (.slice a L.length c) L.length (L.flatMap opVals) := h
  have hc : ∀ g, a = some ⟨g, 0, none⟩ → ∀ i, (hi : i < L.length) → OpAt w g (0 + i * 5) L[i] := by
    intro g ha i hi
    subst ha
    have key : ∀ j u, j < 5 → (opVals L[i])[j]? = some u → w.cell? ⟨g, 0 + i * 5 + j, none⟩ = some u := by
      intro j u hj hu
      have := World.ownsRow.cells h0 (g := g) rfl (i * 5 + j) u (by rw [ops5_get L i j hi hj]; exact hu)
      rw [Addr.add_lit] at this
      rwa [← Nat.add_assoc] at this
    exact ⟨key 0 _ (by decide) rfl, key 1 _ (by decide) rfl, key 2 _ (by decide) rfl, key 3 _ (by decide) rfl, key 4 _ (by decide) rfl⟩
  refine ⟨⟨hl, fun ha => ?_, fun hne => ?_, ht⟩, fun hne b o ha => ?_⟩
  · rcases h0.2 with ⟨hv, hn⟩ | ⟨g, cap, cur, hv, -⟩
    · exact List.eq_nil_of_length_eq_zero hn
    · rw [ha] at hv; simp at hv
  · rcases h0.2 with ⟨hv, hn⟩ | ⟨g, cap, cur, hv, -⟩
    · exact absurd (List.eq_nil_of_length_eq_zero hn) hne
    · have ha : a = some ⟨g, 0, none⟩ := by simp at hv; exact hv.1
      exact ⟨g, 0, ha, hc g ha⟩
  · rcases h0.2 with ⟨hv, hn⟩ | ⟨g, cap, cur, hv, hb, -⟩
    · exact absurd (List.eq_nil_of_length_eq_zero hn) hne
    · have ha' : a = some ⟨g, 0, none⟩ := by simp at hv; exact hv.1
      rw [ha] at ha'
      obtain ⟨rfl, -⟩ : b = g ∧ o = 0 := by simpa using ha'
      exact hb

/-- More operations at the end. -/
theorem wpList_append_ops {ops : Array Oper} {rest : List Oper} {o : Oper} {a : Act} {w : World} {Q : Exit → Act → World → Prop} (hgd : o.guard = none) (s x : Operand)
    (ho : o.op = .call { callee := .builtin .append, args := #[s, x], argTypes := #[23, 23] })
    (base : Nat) (v : Value) (L : List OpR) (hs : a.eval s = v) (hown : Hid (OpsAt w base v L))
    (ad : Addr) (cc : Nat) (M : List OpR) (hx : a.eval x = .slice (some ad) M.length cc) (hX : Hid (∀ j u, (M.flatMap opVals)[j]? = some u → w.cell? (ad.add j) = some u)) (hM : 0 < M.length) (hl : L.length + M.length ≤ 100000) (hbase : base ≤ w.heap.size)
    (h : ∀ g cap w', Hid (OpsAt w' base (.slice (some ⟨g, 0, none⟩) (L.length + M.length) cap) (L ++ M)) → Hid (w.grownBy w' v.ownBlock) → wpList Try.prog ops Q rest (a.put o.dst (.slice (some ⟨g, 0, none⟩) (L.length + M.length) cap)) w') :
    wpList Try.prog ops Q (o :: rest) a w := by
  obtain ⟨i0, hi0, hz0, hz1, hz2⟩ := info_parts info33
  refine wpList_append_own2 w hgd s x 23 ho base 33 i0 _ 5 48 Try.underlying23 hi0 hz0 hz1 hz2 rfl (by decide) v L.length (L.flatMap opVals) hs hown.out ad M.length cc (M.flatMap opVals) hx (ops5_len M) hX.out (fun u hu => op_one hu) hM (by unfold maxLen; omega) (by omega) hbase ?_
  intro g cap w' h1 h2 h3
  refine h g cap w' ?_ h2
  show w'.ownsRow base 33 5 _ _ _
  rw [List.length_append, List.flatMap_append]
  exact h1
theorem OpsAt.ge {w : World} {b : Nat} {v : Value} {L : List OpR} (h : OpsAt w b v L) : ∀ k, v.ownBlock = some k → b ≤ k := fun k hk => (World.ownsRow.lt h k hk).1
theorem OpsAt.alloc {w : World} {b : Nat} {v : Value} {L : List OpR} (h : OpsAt w b v L) (o : Obj) : OpsAt (w.alloc o) b v L := World.ownsRow.alloc h o
theorem ArgOps.news {w : World} {b o : Nat} {l : List OpR} (h : ∀ i, (hi : i < l.length) → OpAt w b (o + i * 5) l[i]) : ∀ j u, (l.flatMap opVals)[j]? = some u → w.cell? ((⟨b, o, none⟩ : Addr).add j) = some u := by
  intro j u hj
  have hjl : j < l.length * 5 := by rw [← ops5_len]; exact (List.getElem?_eq_some_iff.1 hj).1
  have hq : j / 5 < l.length := by omega
  have hg := ops5_get l (j / 5) (j % 5) hq (Nat.mod_lt _ (by decide))
  have e : j / 5 * 5 + j % 5 = j := by omega
  rw [e, hj] at hg
  have hp := h (j / 5) hq
  rw [Addr.add_lit]
  have key : ∀ r, (opVals l[j / 5])[r]? = some u → w.cell? ⟨b, o + j / 5 * 5 + r, none⟩ = some u := by
    intro r hr
    match r, hr with
    | 0, hr => simp [opVals] at hr; subst hr; exact hp.c0
    | 1, hr => simp [opVals] at hr; subst hr; exact hp.c1
    | 2, hr => simp [opVals, pkVals] at hr; subst hr; exact hp.c2
    | 3, hr => simp [opVals, pkVals] at hr; subst hr; exact hp.c3
    | 4, hr => simp [opVals, pkVals] at hr; subst hr; exact hp.c4
    | r + 5, hr => simp [opVals, pkVals] at hr
  have := key (j % 5) hg.symm
  have e2 : o + j / 5 * 5 + j % 5 = o + j := by omega
  rwa [e2] at this

set_option maxRecDepth 100000 in
set_option maxHeartbeats 8000000 in
theorem ends_walk (w : World) (n : Int) (fa : Option Addr) (fc : Nat) (fs : List Fa) (oa : Option Addr) (oc : Nat) (l : List OpR) (A : Args w fa fc fs oa l) :
    Calls Try.prog 6 #[.int .i64 n, .slice fa fs.length fc, .slice oa l.length oc] w fun e w' => e = .returned (.bool true) ∧ Upd [] w w' := by
  have HA := Lib.hid A
  by_cases hsm : smallB fs l = true
  case neg =>
    have hsm : smallB fs l = false := by simpa using hsm
    have HS : Hid (∀ W, Upd [] w W → Calls Try.prog 23 #[.slice fa fs.length fc, .slice oa l.length oc] W fun e w' => e = .returned (.bool false) ∧ W = w') := fun W hW => by have := pre_small HA.out hW (oc := oc); rwa [hsm] at this
    clear A hsm
    go_enter Try.func6, Try.ntmps6
    go_wp2_with (first | (go_at_call 10; refine (head_any _).mono ?_; rintro e w1 ⟨rfl, hu1⟩; have HU1 := Lib.hid hu1; clear hu1) | (go_at_call 23; refine (HS.out _ HU1.out).mono ?_; rintro e w2 ⟨rfl, rfl⟩))
    go_ret
    exact ⟨rfl, HU1.out⟩
  obtain ⟨hf60, hl200⟩ := smallB_parts hsm
  have HS : Hid (∀ W, Upd [] w W → Calls Try.prog 23 #[.slice fa fs.length fc, .slice oa l.length oc] W fun e w' => e = .returned (.bool true) ∧ W = w') := fun W hW => by have := pre_small HA.out hW (oc := oc); rwa [hsm] at this
  by_cases hgd : goodB n fs = true
  case neg =>
    have hgd : goodB n fs = false := by simpa using hgd
    have HG : Hid (∀ W, Upd [] w W → Calls Try.prog 24 #[.int .i64 n, .slice fa fs.length fc] W fun e w' => e = .returned (.bool false) ∧ Upd [] W w') := fun W hW => by have := pre_good HA.out hW n (by omega); rwa [hgd] at this
    clear A hsm hgd
    go_enter Try.func6, Try.ntmps6
    go_wp2_with (first | (go_at_call 10; refine (head_any _).mono ?_; rintro e w1 ⟨rfl, hu1⟩; have HU1 := Lib.hid hu1; clear hu1) | (go_at_call 23; refine (HS.out _ HU1.out).mono ?_; rintro e w2 ⟨rfl, rfl⟩) | (go_at_call 24; refine (HG.out _ HU1.out).mono ?_; rintro e w3 ⟨rfl, hu3⟩; have HU3 : Hid (Upd [] w w3) := HU1.out.trans hu3; clear hu3))
    go_ret
    exact ⟨rfl, HU3.out⟩
  obtain ⟨hn1, hn12, hr⟩ := goodB_parts hgd
  obtain ⟨m, rfl⟩ := Int.eq_ofNat_of_zero_le (show 0 ≤ n by omega)
  have HG : Hid (∀ W, Upd [] w W → Calls Try.prog 24 #[.int .i64 m, .slice fa fs.length fc] W fun e w' => e = .returned (.bool true) ∧ Upd [] W w') := fun W hW => by have := pre_good HA.out hW m (by omega); rwa [hgd] at this
  have HN : Hid (∀ W, Upd [] w W → Calls Try.prog 12 #[.int .i64 m, .slice fa fs.length fc] W (NewPost m fs W)) := fun W hW => new_ok m (by omega) (by omega) fa fc fs (HA.out.f.upd hW) HA.out.c (by omega) hr
  have HR := Lib.hid hr
  clear A hsm hgd hr
  go_enter Try.func6, Try.ntmps6
  go_upto_region 5 with (first | (go_at_call 10; refine (head_any _).mono ?_; rintro e w1 ⟨rfl, hu1⟩; have HU1 := Lib.hid hu1; clear hu1) | (go_at_call 23; refine (HS.out _ HU1.out).mono ?_; rintro e w2 ⟨rfl, rfl⟩) | (go_at_call 24; refine (HG.out _ HU1.out).mono ?_; rintro e w3 ⟨rfl, hu3⟩; have HU3 : Hid (Upd [] w w3) := HU1.out.trans hu3; clear hu3) | (go_at_call 12; refine (HN.out _ HU3.out).mono ?_; rintro e w4 ⟨f, rfl, hn4, hu4⟩; have HN4 := Lib.hid hn4; have HU4 : Hid (Upd [] w w4) := HU3.out.trans hu4; have HU34 := Lib.hid hu4; clear hn4 hu4))
  go_cut [9] (fun v wc => ∃ g c, v = .slice (some ⟨g, 0, none⟩) l.length c ∧ Hid (OpsAt wc w4.heap.size (.slice (some ⟨g, 0, none⟩) l.length c) l ∧ Upd [] w4 wc))
  case first =>
    have HO0 : Hid (OpsAt (w4.alloc (.cells #[] 33)) w4.heap.size (.slice (some ⟨w4.heap.size, 0, none⟩) 0 0) []) :=
      ⟨rfl, .inr ⟨w4.heap.size, 0, #[], rfl, Nat.le_refl _, heap_alloc_new w4 _, Nat.le_refl _, Nat.zero_le _, rfl, rfl⟩⟩
    have hUA : Upd [] w4 (w4.alloc (.cells #[] 33)) := (Upd.refl _ _).alloc _
    have HUA := Lib.hid hUA
    by_cases hl0 : l = []
    · subst hl0
      clear hUA
      cases oa with
      | none =>
        go_wp2
        go_meet
        exact ⟨w4.heap.size, 0, rfl, HO0.out, HUA.out⟩
      | some ad =>
        go_wp2
        go_meet
        exact ⟨w4.heap.size, 0, rfl, HO0.out, HUA.out⟩
    · obtain ⟨b, o, ha, hx⟩ := HA.out.o.at_ hl0
      subst ha
      have HNW : Hid (∀ j u, (l.flatMap opVals)[j]? = some u → (w4.alloc (.cells #[] 33)).cell? ((⟨b, o, none⟩ : Addr).add j) = some u) :=
        ArgOps.news fun i hi => (hx i hi).upd (HU4.out.trans hUA) (by simp)
      have hlp : 0 < l.length := List.length_pos_iff.2 hl0
      have hll : ([] : List OpR).length + l.length ≤ 100000 := by simp; omega
      have hbs : w4.heap.size ≤ (w4.alloc (Obj.cells #[] 33)).heap.size := by simp
      clear hx hUA hl0
      go_wp2_with (at_builtin; refine wpList_append_ops rfl _ _ rfl w4.heap.size _ [] rfl HO0 ⟨b, o, none⟩ _ l rfl HNW hlp hll hbs ?_; intro g cap w' hp1 hg1)
      go_meet
      refine ⟨g, cap, rfl, by have := hp1.out; simpa using this, HUA.out.grown hg1.out (fun k hk => .inr ?_)⟩
      have hk' : some w4.heap.size = some k := hk
      obtain rfl : w4.heap.size = k := by simpa using hk'
      exact Nat.le_refl _
  case rest =>
    obtain ⟨g, c, rfl, hc⟩ := hcut
    obtain ⟨wd, hwd⟩ : ∃ wd, wd = wc := ⟨_, rfl⟩
    rw [← hwd] at hc
    rw [← hwd]
    clear hwd wc
    have hll : l.length ≤ 200 := hl200
    go_wp2_with fail
    go_loopw [9, 10] (fun v i wr => ∃ q : Nat, q ≤ 100 ∧ i = .int .i64 q ∧ ∃ g c, v = .slice (some ⟨g, 0, none⟩) (l.length + q) c ∧ Hid (OpsAt wr w4.heap.size (.slice (some ⟨g, 0, none⟩) (l.length + q) c) (l ++ List.replicate q stepOp) ∧ Upd [] w4 wr)) (fun _ i _ => 100 - (intOf i).toNat)
    case atStart => exact ⟨0, by decide, rfl, g, c, rfl, by simpa using hc⟩
    case round =>
      obtain ⟨q, hq, rfl, g, c, rfl, hR⟩ := hrel
      by_cases hqm : q < 100
      · have HO1 : Hid (OpsAt wr w4.heap.size (.slice (some ⟨g, 0, none⟩) (l.length + q) c) (l ++ List.replicate q stepOp)) := hR.out.1
        have HU5 : Hid (Upd [] w4 wr) := hR.out.2
        have HOA : Hid (∀ ob, OpsAt (wr.alloc ob) w4.heap.size (.slice (some ⟨g, 0, none⟩) (l.length + q) c) (l ++ List.replicate q stepOp)) := fun ob => HO1.out.alloc ob
        have HNW : Hid (∀ ob : Obj, ob = .cells #[.int .i64 2, .int .i64 0, .int .i64 0, .int .i64 0, .string ByteArray.empty] 33 (0, 0) → ∀ j u, ([stepOp].flatMap opVals)[j]? = some u → (wr.alloc ob).cell? ((⟨wr.heap.size, 0, none⟩ : Addr).add j) = some u) := by
          intro ob hob j u hj
          rw [Addr.add_lit, cell_of_row _ wr.heap.size (0 + j) _ 33 (0, 0) (by rw [hob]; exact heap_alloc_new wr _)]
          rw [Nat.zero_add]; simpa [opVals, stepOp, noPk, pkVals] using hj
        have hll2 : (l ++ List.replicate q stepOp).length + [stepOp].length ≤ 100000 := by simp; omega
        have hlen : (l ++ List.replicate q stepOp).length = l.length + q := by simp
        have HLEN := Lib.hid hlen
        have HBS : Hid (w4.heap.size ≤ wr.heap.size) := HU5.out.size
        clear hR hlen hc
        go_wp2_with (at_builtin; refine wpList_append_ops rfl _ _ rfl w4.heap.size _ (l ++ List.replicate q stepOp) rfl (HOA.out _) ⟨wr.heap.size, 0, none⟩ 1 [stepOp] rfl (HNW.out _ rfl) (by decide) hll2 (by have := HBS.out; simp; omega) ?_; intro g2 cap2 w6 hp1 hg1)
        have HFN : Hid (OpsAt w6 w4.heap.size (.slice (some ⟨g2, 0, none⟩) (l.length + (q + 1)) cap2) (l ++ List.replicate (q + 1) stepOp) ∧ Upd [] w4 w6) := by
          refine ⟨?_, (HU5.out.alloc _).grown hg1.out (fun k hk => .inr (OpsAt.ge HO1.out k hk))⟩
          have := hp1.out
          rw [List.append_assoc, ← List.replicate_succ', HLEN.out] at this
          exact this
        exact ⟨⟨q + 1, by omega, by go_num, g2, cap2, rfl, HFN.out⟩, by simp [intOf]; omega⟩
      · obtain ⟨RS, hRS⟩ : ∃ RS, RS = List.replicate q stepOp := ⟨_, rfl⟩
        have hq100 : q = 100 := by omega
        have hrl : RS.length = 100 := by rw [hRS, List.length_replicate]; exact hq100
        have hc2 : Hid (OpsAt wr w4.heap.size (.slice (some ⟨g, 0, none⟩) (l.length + 100) c) (l ++ RS) ∧ Upd [] w4 wr) := by rw [hRS, ← hq100]; exact hR
        have HRS : Hid (∀ k, (l ++ RS) ++ (List.range k).map recvOp = moreOps k l) := fun k => by rw [hRS, hq100]; rfl
        have HRL := Lib.hid hrl
        have HQ := Lib.hid hq100
        clear hR hc hRS hrl hq100
        go_wp2_with fail
        go_loopw [9, 11] (fun v i wr => ∃ q : Nat, q ≤ m ∧ i = .int .i64 q ∧ ∃ g c, v = .slice (some ⟨g, 0, none⟩) (l.length + 100 + q) c ∧ Hid (OpsAt wr w4.heap.size (.slice (some ⟨g, 0, none⟩) (l.length + 100 + q) c) ((l ++ RS) ++ (List.range q).map recvOp) ∧ Upd [] w4 wr)) (fun _ i _ => m - (intOf i).toNat)
        case atStart => exact ⟨0, Nat.zero_le _, rfl, g, c, by rw [HQ.out], by simpa using hc2⟩
        case round =>
          obtain ⟨q, hq, rfl, g, c, rfl, hR⟩ := hrel
          by_cases hqm : q < m
          · obtain ⟨L0, hL0⟩ : ∃ L0, L0 = (l ++ RS) ++ (List.range q).map recvOp := ⟨_, rfl⟩
            have hlen : L0.length = l.length + 100 + q := by rw [hL0]; simp [HRL.out]; omega
            have HLEN := Lib.hid hlen
            have HL0 := Lib.hid hL0
            rw [← hL0] at hR
            have HO1 : Hid (OpsAt wr w4.heap.size (.slice (some ⟨g, 0, none⟩) (l.length + 100 + q) c) L0) := hR.out.1
            have HU5 : Hid (Upd [] w4 wr) := hR.out.2
            have HOA : Hid (∀ ob, OpsAt (wr.alloc ob) w4.heap.size (.slice (some ⟨g, 0, none⟩) (l.length + 100 + q) c) L0) := fun ob => HO1.out.alloc ob
            have HNW : Hid (∀ ob : Obj, ob = .cells #[.int .i64 1, .int .i64 q, .int .i64 0, .int .i64 0, .string ByteArray.empty] 33 (0, 0) → ∀ j u, ([recvOp q].flatMap opVals)[j]? = some u → (wr.alloc ob).cell? ((⟨wr.heap.size, 0, none⟩ : Addr).add j) = some u) := by
              intro ob hob j u hj
              rw [Addr.add_lit, cell_of_row _ wr.heap.size (0 + j) _ 33 (0, 0) (by rw [hob]; exact heap_alloc_new wr _)]
              rw [Nat.zero_add]; simpa [opVals, recvOp, noPk, pkVals] using hj
            have hll2 : L0.length + [recvOp q].length ≤ 100000 := by rw [hlen]; simp; omega
            have HBS : Hid (w4.heap.size ≤ wr.heap.size) := HU5.out.size
            clear hR hlen hL0 hc2
            go_wp2_with (at_builtin; (refine wpList_append_ops rfl _ _ rfl w4.heap.size _ L0 rfl (HOA.out _) ⟨wr.heap.size, 0, none⟩ 1 [recvOp q] rfl (HNW.out _ rfl) Nat.zero_lt_one hll2 (by have := HBS.out; simp; omega) ?_); intro g2 cap2 w6 hp1 hg1)
            have HFN : Hid (OpsAt w6 w4.heap.size (.slice (some ⟨g2, 0, none⟩) (l.length + 100 + (q + 1)) cap2) ((l ++ RS) ++ (List.range (q + 1)).map recvOp) ∧ Upd [] w4 w6) := by
              refine ⟨?_, (HU5.out.alloc _).grown hg1.out (fun k hk => .inr (OpsAt.ge HO1.out k hk))⟩
              have := hp1.out
              rw [HLEN.out, HL0.out] at this
              rw [List.range_succ, List.map_append, ← List.append_assoc]
              exact this
            exact ⟨⟨q + 1, by omega, by go_num, g2, cap2, by first | rfl | (rw [HLEN.out]; rfl), HFN.out⟩, by simp [intOf]; omega⟩
          · obtain rfl : q = m := by omega
            obtain ⟨st, hst⟩ : ∃ st, st = PS.run fs (start q fs) (moreOps q l) := ⟨_, rfl⟩
            have hml : (moreOps q l).length = l.length + 100 + q := by rw [← HRS.out]; simp [HRL.out]; omega
            have HPL : Hid (∀ (W : World), OpsAt W w4.heap.size (.slice (some ⟨g, 0, none⟩) (l.length + 100 + q) c) (moreOps q l) → Upd [] w4 W → Calls Try.prog 25 #[.pointer (some ⟨f.B, 0, none⟩), .int .i64 q, .slice fa fs.length fc, .slice (some ⟨g, 0, none⟩) (l.length + 100 + q) c] W (PlayPost w3.heap.size f st q W)) := by
              intro W hO hW
              rw [hst, ← hml]
              rw [← hml] at hO
              obtain ⟨hargs, hge⟩ := hO.args (by rw [hml]; unfold maxLen; omega) (by
                intro x hx
                simp only [moreOps, List.mem_append, List.mem_map, List.mem_replicate] at hx
                rcases hx with (hx | ⟨-, rfl⟩) | ⟨i, -, rfl⟩
                · exact HA.out.o.tx x hx
                · exact Nat.zero_le _
                · exact Nat.zero_le _)
              have hNW := HN4.out.upd hW (by simp)
              exact play_any hNW (new_wf (by omega) (by omega) HR.out) (Nat.le_trans HU34.out.size hW.size) q (by simp [NS.new]) fa fc fs (HA.out.f.upd (HU4.out.trans hW)) HR.out
                (fun hne b o ha hm => by have := HN4.out.ge b hm; have := HU3.out.size; have := HA.out.f.lt hne b o ha; omega)
                (some ⟨g, 0, none⟩) c (moreOps q l) hargs (fun hne b o ha hm => by have := hge hne b o ha; have := HN4.out.lt b hm; omega) (by rw [hml]; omega) (by omega) (by simp [NS.new]) (by simp [NS.new]) (by simp [NS.new]; omega)
            have HI : Hid (Inv fs q st) := by rw [hst]; exact run_inv _ (start_inv (by omega) (by omega) HR.out)
            have HOK : Hid (st.Ok q 400 3600 60 1600000) := by
              rw [hst]
              exact PS.run_ok HR.out (ht := 0) (hn := 0) (hf := 60) (hs := 0) (n0 := q) (moreOps q l) (s := start q fs) ⟨(start_inv (by omega) (by omega) HR.out).wf, by simp [start, NS.new], by simp [start], by simp [start, NS.new], by simp [start, NS.new], by simpa [start, NS.new] using hf60, by simp [start], by simp [start], fun x hx => by simp only [start, List.mem_replicate] at hx; rw [hx.2]; simp⟩ 400 3600 1600000 (by omega) (by omega) (by omega)
            have HEN : Hid (st.net.count = 0 ∧ total st.bk = st.bk.sent.length ∧ ∀ p ∈ st.bk.sent, 0 ≤ p.dst ∧ p.dst < q ∧ (st.bk.got.getD p.dst.toNat []).count p = st.bk.sent.count p) := by
              rw [hst]; exact ends (by omega) (by omega) HR.out l
            have HRR : Hid (OpsAt wr w4.heap.size (.slice (some ⟨g, 0, none⟩) (l.length + 100 + q) c) (moreOps q l) ∧ Upd [] w4 wr) := by rw [← HRS.out]; exact hR.out
            clear hR hst hml hc2
            go_wp2_with (first | (go_at_call 25; refine (HPL.out _ HRR.out.1 HRR.out.2).mono ?_; rintro e w5 ⟨sv, G, f', rfl, hb5, hn5, ht5⟩; have HB5 := Lib.hid hb5; have HN5 := Lib.hid hn5; have HT5 := Lib.hid ht5; obtain ⟨sa, sc, hsv, -⟩ := hb5.sent.read; obtain ⟨ln, hln⟩ : ∃ ln, ln = st.bk.sent.length := ⟨_, rfl⟩; rw [← hln] at hsv; have HLN := Lib.hid hln; clear hb5 hn5 ht5 hln; subst hsv))
            generalize hW6 : w5.alloc (Obj.cells #[Value.slice sa ln sc, Value.slice (some { block := G, off := 0 }) q q] 46) = W6
            have HU6 : Hid (Upd [] w5 W6) := by rw [← hW6]; exact (Upd.refl _ _).alloc _
            have c0 : W6.cell? ⟨w5.heap.size, 0, none⟩ = some (.slice sa ln sc) := by rw [← hW6]; simp
            have c1 : W6.cell? ⟨w5.heap.size, 1, none⟩ = some (.slice (some ⟨G, 0, none⟩) q q) := by rw [← hW6]; simp
            have HB6 : Hid (BookR W6 wr.heap.size w5.heap.size (.slice sa ln sc) G st.bk) := HB5.out.upd HU6.out (by simp) (Nat.le_refl _)
            have HN6 : Hid (NetAt W6 w3.heap.size f' st.net) := HN5.out.upd HU6.out (by simp)
            have HW6 : Hid (Upd [] w W6) := (play_upd HU3.out (HU4.out.trans HRR.out.2) (HN4.out.upd HRR.out.2 (by simp)) HT5.out).trans HU6.out
            have HRC : Hid (∀ W, Upd [] W6 W → Calls Try.prog 27 #[.agg #[.slice sa ln sc, .slice (some ⟨G, 0, none⟩) q q]] W fun e w' => e = .returned (.int .i64 ln) ∧ Upd [] W w') := by
              intro W hW
              have := received_any (HB6.out.upd hW (by simp) HU6.out.size) q HI.out.got (by omega) (fun l hl => Nat.le_trans (HOK.out.gl l hl) (by omega)) q
              rw [HEN.out.2.1, ← HLN.out] at this
              exact this
            have HWT : Hid (∀ W, Upd [] W6 W → Calls Try.prog 21 #[.pointer (some ⟨f.B, 0, none⟩)] W fun e w' => e = .returned (.int .i64 0) ∧ Upd [] W w') := by
              intro W hW
              have := waiting_any (HN6.out.upd hW (by simp))
              rw [HT5.out.B, HEN.out.1] at this
              exact this.mono fun e w' h => ⟨h.1, by rw [← h.2]; exact Upd.refl _ _⟩
            have hln36 : ln ≤ 3600 := by rw [HLN.out]; exact HOK.out.sent
            have r0 := fun p : After W6 => p.cell c0
            have r1 := fun p : After W6 => p.cell c1
            clear hW6
            have hbl : ((ln : Int) != (ln : Int)) = false := by simp
            refine region_all (by kernel_rfl) (by kernel_rfl) ?_
            repeat (go_big_quiet_step (first | (go_at_call 27; exact After.call _ (HRC.out _ (After.upd _))) | (go_at_call 21; exact After.call _ (HWT.out _ (After.upd _)))))
            refine wpQuiet_nil ?_
            rintro _ ⟨p, rfl⟩
            have HP0 : Hid (Upd [] W6 p.w) := p.upd
            obtain ⟨W8, hW8⟩ : ∃ W8, W8 = p.w := ⟨_, rfl⟩
            rw [← hW8] at HP0
            rw [← hW8]
            clear hW8 r0 r1 p hbl
            have HSR : Hid (PkList W6 (.slice sa ln sc) st.bk.sent) := HB6.out.sent.read
            have d0 := HP0.out.cell c0 (by simp)
            have d1 := HP0.out.cell c1 (by simp)
            go_wp2_with fail
            go_loopw [13] (fun i wr => ∃ k : Nat, k ≤ ln ∧ i = .int .i64 k ∧ Hid (Upd [] W6 wr)) (fun i _ => ln - (intOf i).toNat)
            case atStart => exact ⟨0, Nat.zero_le _, rfl, HP0.out⟩
            case round =>
              obtain ⟨k, hk, rfl, hu⟩ := hrel
              have b0 := hu.out.cell c0 (by simp)
              have b1 := hu.out.cell c1 (by simp)
              by_cases hkm : k < ln
              · have hkl : k < st.bk.sent.length := by have := HLN.out; omega
                obtain ⟨b, hva, hat⟩ : ∃ b, sa = some ⟨b, 0, none⟩ ∧ PkAt wr b (k * 3) st.bk.sent[k] := by
                  obtain ⟨a', c', e, hx⟩ := HSR.out
                  obtain ⟨rfl, -, -⟩ : sa = a' ∧ ln = st.bk.sent.length ∧ sc = c' := by simpa using e
                  obtain ⟨b, hb, hat⟩ := hx (by intro e; rw [e] at hkl; simp at hkl)
                  exact ⟨b, hb, (hat k hkl).upd hu.out (by simp)⟩
                subst hva
                obtain ⟨hd0, hd1, hcnt⟩ := HEN.out.2.2 _ (List.getElem_mem hkl)
                obtain ⟨y, hy⟩ : ∃ y, y = st.bk.sent[k] := ⟨_, rfl⟩
                rw [← hy] at hat hd0 hd1 hcnt
                clear hy
                obtain ⟨y0, y1, y2⟩ := y
                simp only at hd0 hd1 hcnt
                obtain ⟨d, rfl⟩ := Int.eq_ofNat_of_zero_le hd0
                have hdn : d < q := by omega
                simp only [Int.toNat_natCast] at hcnt
                have hjg : d < st.bk.got.length := by rw [HI.out.got]; exact hdn
                obtain ⟨v, hv, hp, -⟩ := HB6.out.row d _ (List.getElem?_eq_getElem hjg)
                have e : st.bk.got.getD d [] = st.bk.got[d] := by rw [List.getD_eq_getElem?_getD, List.getElem?_eq_getElem hjg]; rfl
                rw [e] at hcnt
                have hgl := HOK.out.gl _ (List.getElem_mem hjg)
                have HPR := Lib.hid hp.read
                obtain ⟨va, vc, hvv, -⟩ := hp.read
                obtain ⟨gn, hgn⟩ : ∃ gn, gn = (st.bk.got[d]).length := ⟨_, rfl⟩
                rw [← hgn] at hvv hgl
                subst hvv
                have b2 := hu.out.cell hv (by simp)
                obtain ⟨cn, hcn⟩ : ∃ cn, cn = st.bk.sent.count ⟨y0, (d : Int), y2⟩ := ⟨_, rfl⟩
                have HCG : Hid (∀ W, Upd [] W6 W → Calls Try.prog 26 #[.slice va gn vc, .agg #[.int .i64 y0, .int .i64 d, .string y2]] W fun e w' => e = .returned (.int .i64 cn) ∧ Upd [] W w') := fun W hW => by
                  rw [hcn, ← hcnt]; exact count_any (HPR.out.upd hW) (by omega) ⟨y0, d, y2⟩
                have HCS : Hid (∀ W, Upd [] W6 W → Calls Try.prog 26 #[.slice (some ⟨b, 0, none⟩) ln sc, .agg #[.int .i64 y0, .int .i64 d, .string y2]] W fun e w' => e = .returned (.int .i64 cn) ∧ Upd [] W w') := fun W hW => by
                  rw [hcn]; exact count_any (HSR.out.upd hW) (by have := HOK.out.sent; omega) ⟨y0, d, y2⟩
                obtain ⟨g0, g1, g2⟩ := hat
                simp only at g0 g1 g2
                clear hcn hcnt hv hp e hgn hd0 hd1 d0 d1
                go_wp2_with fail
                generalize hW7 : wr.alloc (Obj.cells #[Value.int .i64 y0, Value.int .i64 (d : Int), Value.string y2] 31) = W7
                have HU7 : Hid (Upd [] wr W7) := by rw [← hW7]; exact (Upd.refl _ _).alloc _
                have p0 : W7.cell? ⟨wr.heap.size, 0, none⟩ = some (.int .i64 y0) := by rw [← hW7]; simp
                have p1 : W7.cell? ⟨wr.heap.size, 1, none⟩ = some (.int .i64 (d : Int)) := by rw [← hW7]; simp
                have p2 : W7.cell? ⟨wr.heap.size, 2, none⟩ = some (.string y2) := by rw [← hW7]; simp
                clear hW7
                have r0 := fun p : After W7 => p.cell (HU7.out.cell b0 (by simp))
                have r1 := fun p : After W7 => p.cell (HU7.out.cell b1 (by simp))
                have r2 := fun p : After W7 => p.cell (HU7.out.cell b2 (by simp))
                have t0 := fun p : After W7 => p.cell p0
                have t1 := fun p : After W7 => p.cell p1
                have t2 := fun p : After W7 => p.cell p2
                have hb1 : decide ((d : Int) < 0) = false := by rw [decide_eq_false_iff_not]; omega
                have hb2 : decide ((q : Int) ≤ (d : Int)) = false := by rw [decide_eq_false_iff_not]; omega
                have hb3 : ((cn : Int) != (cn : Int)) = false := by simp
                have hb4 : decide (q ≤ d) = false := by rw [decide_eq_false_iff_not]; omega
                have hb5 : ¬ q ≤ d := by omega
                have hdnI : (d : Int) < (q : Int) := by omega
                have HUp : Hid (∀ p : After W7, Upd [] W6 p.w) := fun p => (hu.out.trans HU7.out).trans p.upd
                clear b0 b1 b2 g0 g1 g2 p0 p1 p2
                refine region_all (by kernel_rfl) (by kernel_rfl) ?_
                repeat (go_big_quiet_step (first | (go_at_call_of 26 (Value.slice va gn vc); exact After.call _ (HCG.out _ (HUp.out _))) | (go_at_call_of 26 (Value.slice (some { block := b, off := 0 }) ln sc); exact After.call _ (HCS.out _ (HUp.out _)))))
                refine wpQuiet_nil ?_
                rintro _ ⟨p, rfl⟩
                go_wp2
                exact ⟨⟨k + 1, by omega, by go_num, HUp.out p⟩, by simp [intOf]; omega⟩
              · go_wp2_with fail
                go_ret
                exact ⟨rfl, HW6.out.trans hu.out⟩
end Go.Proofs.Ytlmfgdibodpniaa
