/- NetworkInvents, walked. -/
import Derived.Test.YtlmfgdibodpniaaOpen
namespace Go.Proofs.Ytlmfgdibodpniaa
open Go.RowKit

theorem start_ok {m : Nat} {fs : List Fa} (h1 : 1 ≤ m) (h2 : m ≤ 12) (hr : rightB fs = true) (hf60 : fs.length ≤ 60) (l : List OpR) (hl : l.length ≤ 200) : (PS.run fs (start m fs) l).Ok m 200 1800 60 800000 :=
  PS.run_ok hr (ht := 0) (hn := 0) (hf := 60) (hs := 0) (n0 := m) l (s := start m fs) ⟨(start_inv h1 h2 hr).wf, by simp [start, NS.new], by simp [start], by simp [start, NS.new], by simp [start, NS.new], by simpa [start, NS.new] using hf60, by simp [start], by simp [start], fun x hx => by simp only [start, List.mem_replicate] at hx; rw [hx.2]; simp⟩ 200 1800 800000 (by omega) (by omega) (by omega)
theorem play_upd {w w3 w4 w5 : World} {f f' : NFoot} {N : NS} (h3 : Upd [] w w3) (h4 : Upd [] w w4) (hN : NetAt w4 w3.heap.size f N) (ht : NTurn f f' w4 w5) : Upd [] w w5 :=
  ⟨ht.upd.os.trans h4.os, ht.upd.tape.trans h4.tape, ht.upd.output.trans h4.output, Nat.le_trans h4.size ht.upd.size, fun j hj _ => by
    rw [ht.upd.block j (Nat.lt_of_lt_of_le hj h4.size) (fun hm => by have := hN.ge j hm; have := h3.size; omega)]
    exact h4.block j hj (by simp)⟩

set_option maxRecDepth 100000 in
set_option maxHeartbeats 8000000 in
theorem invents_walk (w : World) (n : Int) (fa : Option Addr) (fc : Nat) (fs : List Fa) (oa : Option Addr) (oc : Nat) (l : List OpR) (A : Args w fa fc fs oa l) :
    Calls Try.prog 4 #[.int .i64 n, .slice fa fs.length fc, .slice oa l.length oc] w fun e w' => e = .returned (.bool true) ∧ Upd [] w w' := by
  have HA := Lib.hid A
  by_cases hsm : smallB fs l = true
  case neg =>
    have hsm : smallB fs l = false := by simpa using hsm
    have HS : Hid (∀ W, Upd [] w W → Calls Try.prog 23 #[.slice fa fs.length fc, .slice oa l.length oc] W fun e w' => e = .returned (.bool false) ∧ W = w') := fun W hW => by have := pre_small HA.out hW (oc := oc); rwa [hsm] at this
    clear A hsm
    go_enter Try.func4, Try.ntmps4
    go_wp2_with (first | (go_at_call 10; refine (head_any _).mono ?_; rintro e w1 ⟨rfl, hu1⟩; have HU1 := Lib.hid hu1; clear hu1) | (go_at_call 23; refine (HS.out _ HU1.out).mono ?_; rintro e w2 ⟨rfl, rfl⟩))
    go_ret
    exact ⟨rfl, HU1.out⟩
  obtain ⟨hf60, hl200⟩ := smallB_parts hsm
  have HS : Hid (∀ W, Upd [] w W → Calls Try.prog 23 #[.slice fa fs.length fc, .slice oa l.length oc] W fun e w' => e = .returned (.bool true) ∧ W = w') := fun W hW => by have := pre_small HA.out hW (oc := oc); rwa [hsm] at this
  by_cases hgd : goodB n fs = true
  case neg =>
    have hgd : goodB n fs = false := by simpa using hgd
    have HG : Hid (∀ W, Upd [] w W → Calls Try.prog 24 #[.int .i64 n, .slice fa fs.length fc] W fun e w' => e = .returned (.bool false) ∧ Upd [] W w') := fun W hW => by have := pre_good HA.out hW n (by omega); rwa [hgd] at this
    clear A hsm hgd
    go_enter Try.func4, Try.ntmps4
    go_wp2_with (first | (go_at_call 10; refine (head_any _).mono ?_; rintro e w1 ⟨rfl, hu1⟩; have HU1 := Lib.hid hu1; clear hu1) | (go_at_call 23; refine (HS.out _ HU1.out).mono ?_; rintro e w2 ⟨rfl, rfl⟩) | (go_at_call 24; refine (HG.out _ HU1.out).mono ?_; rintro e w3 ⟨rfl, hu3⟩; have HU3 : Hid (Upd [] w w3) := HU1.out.trans hu3; clear hu3))
    go_ret
    exact ⟨rfl, HU3.out⟩
  obtain ⟨hn1, hn12, hr⟩ := goodB_parts hgd
  obtain ⟨m, rfl⟩ := Int.eq_ofNat_of_zero_le (show 0 ≤ n by omega)
  have HG : Hid (∀ W, Upd [] w W → Calls Try.prog 24 #[.int .i64 m, .slice fa fs.length fc] W fun e w' => e = .returned (.bool true) ∧ Upd [] W w') := fun W hW => by have := pre_good HA.out hW m (by omega); rwa [hgd] at this
  have HN : Hid (∀ W, Upd [] w W → Calls Try.prog 12 #[.int .i64 m, .slice fa fs.length fc] W (NewPost m fs W)) := fun W hW => new_ok m (by omega) (by omega) fa fc fs (HA.out.f.upd hW) HA.out.c (by omega) hr
  obtain ⟨st, hst⟩ : ∃ st, st = PS.run fs (start m fs) l := ⟨_, rfl⟩
  have HPL : Hid (∀ (W : World) (f : NFoot) (base : Nat), Upd [] w W → NetAt W base f (NS.new m fs) → w.heap.size ≤ base → base ≤ W.heap.size → Calls Try.prog 25 #[.pointer (some ⟨f.B, 0, none⟩), .int .i64 m, .slice fa fs.length fc, .slice oa l.length oc] W (PlayPost base f st m W)) := by
    intro W f base hW hN hb hb2
    rw [hst]
    exact play_start HA.out hW hN hb2 (fun j hj => Nat.le_trans hb (hN.ge j hj)) (by omega) (by omega) hr (by omega) hr (by omega) (by omega)
  have HI : Hid (Inv fs m st) := by rw [hst]; exact run_inv l (start_inv (by omega) (by omega) hr)
  have HOK : Hid (st.Ok m 200 1800 60 800000) := by rw [hst]; exact start_ok (by omega) (by omega) hr hf60 l hl200
  clear A hsm hgd hst hr
  go_enter Try.func4, Try.ntmps4
  go_wp2_with (first | (go_at_call 10; refine (head_any _).mono ?_; rintro e w1 ⟨rfl, hu1⟩; have HU1 := Lib.hid hu1; clear hu1) | (go_at_call 23; refine (HS.out _ HU1.out).mono ?_; rintro e w2 ⟨rfl, rfl⟩) | (go_at_call 24; refine (HG.out _ HU1.out).mono ?_; rintro e w3 ⟨rfl, hu3⟩; have HU3 : Hid (Upd [] w w3) := HU1.out.trans hu3; clear hu3) | (go_at_call 12; refine (HN.out _ HU3.out).mono ?_; rintro e w4 ⟨f, rfl, hn4, hu4⟩; have HN4 := Lib.hid hn4; have HU4 : Hid (Upd [] w w4) := HU3.out.trans hu4; have HU34 := Lib.hid hu4; clear hn4 hu4) | (go_at_call 25; refine (HPL.out _ _ _ HU4.out HN4.out HU3.out.size HU34.out.size).mono ?_; rintro e w5 ⟨sv, G, f', rfl, hb5, hn5, ht5⟩; have HB5 := Lib.hid hb5; have HN5 := Lib.hid hn5; have HT5 := Lib.hid ht5; obtain ⟨sa, sc, hsv, -⟩ := hb5.sent.read; obtain ⟨ln, hln⟩ : ∃ ln, ln = st.bk.sent.length := ⟨_, rfl⟩; rw [← hln] at hsv; have HLN := Lib.hid hln; clear hb5 hn5 ht5 hln; subst hsv))
  generalize hW6 : w5.alloc (Obj.cells #[Value.slice sa ln sc, Value.slice (some { block := G, off := 0 }) m m] 46) = W6
  have HU6 : Hid (Upd [] w5 W6) := by rw [← hW6]; exact (Upd.refl _ _).alloc _
  have c0 : W6.cell? ⟨w5.heap.size, 0, none⟩ = some (.slice sa ln sc) := by rw [← hW6]; simp
  have c1 : W6.cell? ⟨w5.heap.size, 1, none⟩ = some (.slice (some ⟨G, 0, none⟩) m m) := by rw [← hW6]; simp
  have HB6 : Hid (BookR W6 w4.heap.size w5.heap.size (.slice sa ln sc) G st.bk) := HB5.out.upd HU6.out (by simp) (Nat.le_refl _)
  have HN6 : Hid (NetAt W6 w3.heap.size f' st.net) := HN5.out.upd HU6.out (by simp)
  have HW6 : Hid (Upd [] w W6) := (play_upd HU3.out HU4.out HN4.out HT5.out).trans HU6.out
  clear hW6
  have HRW : Hid (∀ j, (hj : j < m) → ∃ va vc, W6.cell? ⟨G, j, none⟩ = some (.slice va (st.bk.got.getD j []).length vc) ∧ PkList W6 (.slice va (st.bk.got.getD j []).length vc) (st.bk.got.getD j [])) := by
    intro j hj
    have hjg : j < st.bk.got.length := by rw [HI.out.got]; exact hj
    obtain ⟨v, hv, hp, -⟩ := HB6.out.row j _ (List.getElem?_eq_getElem hjg)
    have e : st.bk.got.getD j [] = st.bk.got[j] := by rw [List.getD_eq_getElem?_getD, List.getElem?_eq_getElem hjg]; rfl
    rw [e]
    have hr := hp.read
    obtain ⟨a, c, rfl, hx⟩ := hr
    exact ⟨a, c, hv, hp.read⟩
  have HSR : Hid (PkList W6 (.slice sa ln sc) st.bk.sent) := HB6.out.sent.read
  have hG := World.block_lt_of_cell? W6 _ c0
  go_loopw [9] (fun h wr => ∃ j : Nat, j ≤ m ∧ h = .int .i64 j ∧ Hid (Upd [] W6 wr)) (fun h _ => m - (intOf h).toNat)
  case atStart => exact ⟨0, Nat.zero_le _, rfl, Upd.refl _ _⟩
  case round =>
    obtain ⟨j, hj, rfl, hu⟩ := hrel
    by_cases hlt : j < m
    · obtain ⟨va, vc, hrow, hpl⟩ := HRW.out j hlt
      obtain ⟨gl, hgl⟩ : ∃ gl, gl = st.bk.got.getD j [] := ⟨_, rfl⟩
      have HGL := Lib.hid hgl
      rw [← hgl] at hrow hpl
      have hll : gl.length ≤ 800000 := by
        rw [hgl]
        have hjg : j < st.bk.got.length := by rw [HI.out.got]; exact hlt
        rw [List.getD_eq_getElem?_getD, List.getElem?_eq_getElem hjg]
        exact HOK.out.gl _ (List.getElem_mem hjg)
      obtain ⟨gn, hgn⟩ : ∃ gn, gn = gl.length := ⟨_, rfl⟩
      have HGN := Lib.hid hgn
      rw [← hgn] at hrow hll hpl
      have HPL := Lib.hid hpl
      have HROW := Lib.hid hrow
      clear hgl hgn hpl
      have b0 := hu.out.cell c0 (by simp)
      have b1 := hu.out.cell c1 (by simp)
      have b2 := hu.out.cell hrow (by simp)
      obtain ⟨wo, rfl⟩ : ∃ wo : World, wo = wr := ⟨_, rfl⟩
      have HO := hu
      clear b0 b1 b2
      go_wp2_with fail
      go_loopw [10] (fun i wr => ∃ q : Nat, q ≤ gn ∧ i = .int .i64 q ∧ Hid (Upd [] W6 wr)) (fun i _ => gn - (intOf i).toNat)
      case atStart => exact ⟨0, Nat.zero_le _, rfl, HO.out⟩
      case round =>
        obtain ⟨q, hq, rfl, hu2⟩ := hrel
        have b0 := hu2.out.cell c0 (by simp)
        have b1 := hu2.out.cell c1 (by simp)
        have b2 := hu2.out.cell HROW.out (by simp)
        by_cases hqm : q < gn
        · have hql : q < gl.length := by have := HGN.out; omega
          obtain ⟨b, hva, hat⟩ : ∃ b, va = some ⟨b, 0, none⟩ ∧ PkAt wr b (q * 3) gl[q] := by
            obtain ⟨a', c', e, hx⟩ := HPL.out
            obtain ⟨rfl, -, -⟩ : va = a' ∧ gn = gl.length ∧ vc = c' := by simpa using e
            obtain ⟨b, hb, hat⟩ := hx (by intro e; rw [e] at hql; simp at hql)
            exact ⟨b, hb, (hat q hql).upd hu2.out (by simp)⟩
          subst hva
          have hinv := invents HI.out j hlt gl[q] (by rw [← HGL.out]; exact List.getElem_mem hql)
          rw [← HGL.out] at hinv
          obtain ⟨y, hy⟩ : ∃ y, y = gl[q] := ⟨_, rfl⟩
          rw [← hy] at hinv hat
          obtain ⟨cg, hcg⟩ : ∃ cg, cg = gl.count y := ⟨_, rfl⟩
          obtain ⟨cs, hcs⟩ : ∃ cs, cs = st.bk.sent.count y := ⟨_, rfl⟩
          have hle : cg ≤ cs := by rw [hcg, hcs]; exact hinv.2
          have hdst := hinv.1
          have HCG : Hid (∀ W, Upd [] W6 W → Calls Try.prog 26 #[.slice (some ⟨b, 0, none⟩) gn vc, .agg #[.int .i64 y.src, .int .i64 y.dst, .string y.body]] W fun e w' => e = .returned (.int .i64 cg) ∧ Upd [] W w') := fun W hW => by
            rw [hcg]; exact count_any (HPL.out.upd hW) (by have := HGN.out; omega) y
          have HCS : Hid (∀ W, Upd [] W6 W → Calls Try.prog 26 #[.slice sa ln sc, .agg #[.int .i64 y.src, .int .i64 y.dst, .string y.body]] W fun e w' => e = .returned (.int .i64 cs) ∧ Upd [] W w') := fun W hW => by
            rw [hcs]; exact count_any (HSR.out.upd hW) (by have := HOK.out.sent; omega) y
          have hcs18 : cs ≤ 1800 := by rw [hcs]; exact Nat.le_trans List.count_le_length HOK.out.sent
          clear hinv hcg hcs hy
          obtain ⟨y0, y1, y2⟩ := y
          obtain ⟨g0, g1, g2⟩ := hat
          simp only at g0 g1 g2 hdst HCG HCS
          subst hdst
          go_wp2_with fail
          generalize hW7 : wr.alloc (Obj.cells #[Value.int .i64 y0, Value.int .i64 (j : Int), Value.string y2] 31) = W7
          have HU7 : Hid (Upd [] wr W7) := by rw [← hW7]; exact (Upd.refl _ _).alloc _
          have p0 : W7.cell? ⟨wr.heap.size, 0, none⟩ = some (.int .i64 y0) := by rw [← hW7]; simp
          have p1 : W7.cell? ⟨wr.heap.size, 1, none⟩ = some (.int .i64 (j : Int)) := by rw [← hW7]; simp
          have p2 : W7.cell? ⟨wr.heap.size, 2, none⟩ = some (.string y2) := by rw [← hW7]; simp
          clear hW7
          have r0 := fun p : After W7 => p.cell (HU7.out.cell b0 (by simp))
          have r1 := fun p : After W7 => p.cell (HU7.out.cell b1 (by simp))
          have r2 := fun p : After W7 => p.cell (HU7.out.cell b2 (by simp))
          have t0 := fun p : After W7 => p.cell p0
          have t1 := fun p : After W7 => p.cell p1
          have t2 := fun p : After W7 => p.cell p2
          have hb1 : ((j : Int) != (j : Int)) = false := by simp
          have hb2 : decide ((cs : Int) < (cg : Int)) = false := by rw [decide_eq_false_iff_not]; omega
          have HUp : Hid (∀ p : After W7, Upd [] W6 p.w) := fun p => (hu2.out.trans HU7.out).trans p.upd
          clear b0 b1 b2 g0 g1 g2 p0 p1 p2
          refine region_all (by kernel_rfl) (by kernel_rfl) ?_
          repeat (go_big_quiet_step (first | (go_at_call_of 26 (Value.slice (some { block := b, off := 0 }) gn vc); exact After.call _ (HCG.out _ (HUp.out _))) | (go_at_call_of 26 (Value.slice sa ln sc); exact After.call _ (HCS.out _ (HUp.out _)))))
          refine wpQuiet_nil ?_
          rintro _ ⟨p, rfl⟩
          go_wp2
          exact ⟨⟨q + 1, by omega, by go_num, HUp.out p⟩, by simp [intOf]; omega⟩
        · go_wp2_with fail
          exact ⟨⟨j + 1, by omega, by go_num, hu2⟩, by simp [intOf]; omega⟩
    · go_wp2
      go_ret
      exact ⟨rfl, HW6.out.trans hu.out⟩
end Go.Proofs.Ytlmfgdibodpniaa
