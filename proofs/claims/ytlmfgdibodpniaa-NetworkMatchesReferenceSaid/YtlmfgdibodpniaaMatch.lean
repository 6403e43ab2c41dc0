/- NetworkMatchesReference, walked. -/
import Derived.Test.YtlmfgdibodpniaaPair
namespace Go.Proofs.Ytlmfgdibodpniaa
open Go.RowKit

set_option maxRecDepth 100000 in
set_option maxHeartbeats 8000000 in
theorem matches_nil (w : World) (n : Int) (fa : Option Addr) (fc : Nat) (fs : List Fa) (oa : Option Addr) (oc : Nat) (l : List OpR) (A : Args w fa fc fs oa l) (hf : fs.length ≤ 500) (hl : l.length ≤ 500) (hsh : shortB l = true)
    (hbad : (n < 1 ∨ 12 < n) ∨ ∃ m : Nat, n = m ∧ 1 ≤ m ∧ m ≤ 12 ∧ rightB fs = false) :
    Calls Try.prog 3 #[.int .i64 n, .slice fa fs.length fc, .slice oa l.length oc] w fun e w' => e = .returned (.bool true) ∧ Upd [] w w' := by
  have HA := Lib.hid A
  have HSH : Hid (∀ W, Upd [] w W → Calls Try.prog 11 #[.slice oa l.length oc] W fun e w' => e = .returned (.bool true) ∧ W = w') := fun W hW => by have := short_any oa oc l (HA.out.o.upd hW); rwa [hsh] at this
  have HN : Hid (∀ W, Upd [] w W → Calls Try.prog 12 #[.int .i64 n, .slice fa fs.length fc] W fun e w' => e = .returned (.pointer none) ∧ Upd [] W w') := by
    intro W hW
    rcases hbad with h | ⟨m, rfl, h1, h2, h3⟩
    · exact (new_few n h fa _ fc W).mono fun e w' h => ⟨h.1, by rw [h.2]; exact Upd.refl _ _⟩
    · exact new_wrong m h1 h2 fa fc fs (HA.out.f.upd hW) h3
  have HR : Hid (∀ W, Upd [] w W → Calls Try.prog 13 #[.int .i64 n, .slice fa fs.length fc] W fun e w' => e = .returned (.pointer none) ∧ Upd [] W w') := by
    intro W hW
    rcases hbad with h | ⟨m, rfl, h1, h2, h3⟩
    · exact (rnew_few n h fa _ fc W).mono fun e w' h => ⟨h.1, by rw [h.2]; exact Upd.refl _ _⟩
    · exact rnew_wrong m h1 h2 fa fc fs (HA.out.f.upd hW) h3
  clear A hsh hbad
  go_enter Try.func3, Try.ntmps3
  go_wp2_with (first | (go_at_call 10; refine (head_any _).mono ?_; rintro e w1 ⟨rfl, hu1⟩; have HU1 := Lib.hid hu1; clear hu1) | (go_at_call 11; refine (HSH.out _ HU1.out).mono ?_; rintro e w2 ⟨rfl, rfl⟩) | (go_at_call 12; refine (HN.out _ HU1.out).mono ?_; rintro e w3 ⟨rfl, hu3⟩; have HU3 : Hid (Upd [] w w3) := HU1.out.trans hu3; clear hu3) | (go_at_call 13; refine (HR.out _ HU3.out).mono ?_; rintro e w4 ⟨rfl, hu4⟩; have HU4 : Hid (Upd [] w w4) := HU3.out.trans hu4; clear hu4))
  go_loopw [10] (fun i wr => ∃ q : Nat, q ≤ l.length ∧ i = .int .i64 q ∧ Hid (Upd [] w wr)) (fun i _ => l.length - (intOf i).toNat)
  case atStart => exact ⟨0, Nat.zero_le _, rfl, HU4⟩
  case round =>
    obtain ⟨q, hq, rfl, hu⟩ := hrel
    by_cases hqm : q < l.length
    · obtain ⟨b, ob, rfl, hat⟩ : ∃ b ob, oa = some ⟨b, ob, none⟩ ∧ OpAt wr b (ob + q * 5) l[q] := (HA.out.o.upd hu.out).get hqm
      obtain ⟨o, ho⟩ : ∃ o, o = l[q] := ⟨_, rfl⟩
      rw [← ho] at hat
      obtain ⟨kd, hs, x0, x1, x2⟩ := o
      obtain ⟨g0, g1, g2, g3, g4⟩ := hat
      simp only at g0 g1 g2 g3 g4
      have HS14 : Hid (∀ W, Calls Try.prog 14 #[.pointer none, .agg #[.int .i64 x0, .int .i64 x1, .string x2]] W fun e w' => e = .returned (.int .i64 1) ∧ Upd [] W w') := fun W => send_nil ⟨x0, x1, x2⟩
      have HS15 : Hid (∀ W, Calls Try.prog 15 #[.pointer none, .agg #[.int .i64 x0, .int .i64 x1, .string x2]] W fun e w' => e = .returned (.int .i64 1) ∧ Upd [] W w') := fun W => rsend_nil ⟨x0, x1, x2⟩
      have HPK : Hid (∀ W, Calls Try.prog 18 #[.slice none 0 0, .slice none 0 0] W fun e w' => e = .returned (.bool true) ∧ Upd [] W w') := fun W => by
        have := packets_any (va := .slice none 0 0) (vb := .slice none 0 0) (xs := []) (ys := []) (w := W) ⟨none, 0, rfl, fun h => absurd rfl h⟩ ⟨none, 0, rfl, fun h => absurd rfl h⟩ (Nat.zero_le _)
        rwa [decide_eq_true rfl] at this
      clear ho
      by_cases k0 : kd = 0
      · subst k0
        have r2 := fun p : After wr => p.cell g2
        have r3 := fun p : After wr => p.cell g3
        have r4 := fun p : After wr => p.cell g4
        have HUp : Hid (∀ p : After wr, Upd [] w p.w) := fun p => hu.out.trans p.upd
        go_wp2_with fail
        refine region_all (by kernel_rfl) (by kernel_rfl) ?_
        repeat (go_big_quiet_step (first | (go_at_call 14; exact After.call _ (HS14.out _)) | (go_at_call 15; exact After.call _ (HS15.out _))))
        refine wpQuiet_nil ?_
        rintro _ ⟨p, rfl⟩
        go_wp2_with (first | (go_at_call 21; refine (waiting_nil _).mono ?_; rintro e w8 ⟨rfl, rfl⟩) | (go_at_call 22; refine (rwaiting_nil _).mono ?_; rintro e w8 ⟨rfl, rfl⟩))
        exact ⟨⟨q + 1, by omega, by go_num, HUp.out p⟩, by simp [intOf]; omega⟩
      · have t0 : (kd == 0) = false := by simpa using k0
        clear k0
        by_cases k1 : kd = 1
        · subst k1
          go_wp2_with (first | (go_at_call 16; refine (recv_nil _).mono ?_; rintro e w5 ⟨rfl, rfl⟩) | (go_at_call 17; refine (rrecv_nil _).mono ?_; rintro e w5 ⟨rfl, rfl⟩) | (go_at_call 18; refine (HPK.out _).mono ?_; rintro e w7 ⟨rfl, hu7⟩; have HU7 := Lib.hid hu7; clear hu7) | (go_at_call 21; refine (waiting_nil _).mono ?_; rintro e w8 ⟨rfl, rfl⟩) | (go_at_call 22; refine (rwaiting_nil _).mono ?_; rintro e w8 ⟨rfl, rfl⟩))
          exact ⟨⟨q + 1, by omega, by go_num, hu.out.trans HU7.out⟩, by simp [intOf]; omega⟩
        · have t1 : (kd == 1) = false := by simpa using k1
          clear k1
          go_wp2_with (first | (go_at_call 19; refine (step_nil _).mono ?_; rintro e w5 ⟨rfl, rfl⟩) | (go_at_call 20; refine (rstep_nil _).mono ?_; rintro e w5 ⟨rfl, rfl⟩) | (go_at_call 21; refine (waiting_nil _).mono ?_; rintro e w8 ⟨rfl, rfl⟩) | (go_at_call 22; refine (rwaiting_nil _).mono ?_; rintro e w8 ⟨rfl, rfl⟩))
          exact ⟨⟨q + 1, by omega, by go_num, hu⟩, by simp [intOf]; omega⟩
    · go_wp2_with fail
      go_ret
      exact ⟨rfl, hu.out⟩

set_option maxRecDepth 100000 in
set_option maxHeartbeats 8000000 in
theorem matches_good (w : World) (m : Nat) (fa : Option Addr) (fc : Nat) (fs : List Fa) (oa : Option Addr) (oc : Nat) (l : List OpR) (A : Args w fa fc fs oa l) (hf : fs.length ≤ 500) (hl : l.length ≤ 500) (hsh : shortB l = true)
    (h1 : 1 ≤ m) (h12 : m ≤ 12) (hr : rightB fs = true) :
    Calls Try.prog 3 #[.int .i64 m, .slice fa fs.length fc, .slice oa l.length oc] w fun e w' => e = .returned (.bool true) ∧ Upd [] w w' := by
  have HA := Lib.hid A
  have HSH : Hid (∀ W, Upd [] w W → Calls Try.prog 11 #[.slice oa l.length oc] W fun e w' => e = .returned (.bool true) ∧ W = w') := fun W hW => by have := short_any oa oc l (HA.out.o.upd hW); rwa [hsh] at this
  have HN : Hid (∀ W, Upd [] w W → Calls Try.prog 12 #[.int .i64 m, .slice fa fs.length fc] W (NewPost m fs W)) := fun W hW => new_ok m h1 h12 fa fc fs (HA.out.f.upd hW) HA.out.c (by omega) hr
  have HR : Hid (∀ W, Upd [] w W → Calls Try.prog 13 #[.int .i64 m, .slice fa fs.length fc] W (RNewPost m fs W)) := fun W hW => rnew_ok m h1 h12 fa fc fs (HA.out.f.upd hW) (by omega) hr
  have HM0 : Hid (MI m 0 (NS.new m fs) (RS.new m fs)) := mi_new h1 h12 hr hf
  clear A hsh hr
  go_enter Try.func3, Try.ntmps3
  go_wp2_with (first | (go_at_call 10; refine (head_any _).mono ?_; rintro e w1 ⟨rfl, hu1⟩; have HU1 := Lib.hid hu1; clear hu1) | (go_at_call 11; refine (HSH.out _ HU1.out).mono ?_; rintro e w2 ⟨rfl, rfl⟩) | (go_at_call 12; refine (HN.out _ HU1.out).mono ?_; rintro e w3 ⟨f, rfl, hn3, hu3⟩; have HN3 := Lib.hid hn3; have HU13 := Lib.hid hu3; have HU3 : Hid (Upd [] w w3) := HU1.out.trans hu3; clear hn3 hu3) | (go_at_call 13; refine (HR.out _ HU3.out).mono ?_; rintro e w4 ⟨g, rfl, hn4, hu4⟩; have HP4 := Lib.hid (pair_start HN3.out HU13.out hn4 hu4); obtain ⟨B, hB⟩ : ∃ B, B = f.B := ⟨_, rfl⟩; obtain ⟨B', hB'⟩ : ∃ B', B' = g.B := ⟨_, rfl⟩; rw [← hB, ← hB'] at HP4; rw [← hB, ← hB']; clear hn4 hu4 hB hB' HN3))
  go_loopw [10] (fun i wr => ∃ q : Nat, q ≤ l.length ∧ i = .int .i64 q ∧ ∃ N r, Hid (MI m q N r) ∧ Hid (Pair w1 wr B B' N r)) (fun i _ => l.length - (intOf i).toNat)
  case atStart => exact ⟨0, Nat.zero_le _, rfl, _, _, HM0, HP4⟩
  case round =>
    obtain ⟨q, hq, rfl, N, r, hM, hP⟩ := hrel
    by_cases hqm : q < l.length
    · obtain ⟨b, ob, rfl, hat⟩ : ∃ b ob, oa = some ⟨b, ob, none⟩ ∧ OpAt w1 b (ob + q * 5) l[q] := (HA.out.o.upd HU1.out).get hqm
      obtain ⟨o, ho⟩ : ∃ o, o = l[q] := ⟨_, rfl⟩
      rw [← ho] at hat
      have HCL : Hid (∀ W, Upd [] w1 W → OpAt W b (ob + q * 5) o) := fun W hW => hat.upd hW (by simp)
      obtain ⟨kd, hs, x0, x1, x2⟩ := o
      obtain ⟨g0, g1, g2, g3, g4⟩ := HCL.out _ hP.out.upd
      simp only at g0 g1 g2 g3 g4
      have hq500 : q ≤ 500 := by omega
      have hnm : m = N.ways.length := hM.out.ways.symm
      have HNM := Lib.hid hnm
      clear ho hat hnm
      by_cases k0 : kd = 0
      · subst k0
        obtain ⟨N', hN'⟩ : ∃ N', N' = (N.send ⟨x0, x1, x2⟩).1 := ⟨_, rfl⟩
        obtain ⟨r', hr'⟩ : ∃ r', r' = (r.send ⟨x0, x1, x2⟩).1 := ⟨_, rfl⟩
        obtain ⟨x, hx⟩ : ∃ x, x = (r.send ⟨x0, x1, x2⟩).2 := ⟨_, rfl⟩
        have HM' : Hid (MI m (q + 1) N' r') := by rw [hN', hr']; exact mi_send hM.out _
        have HS14 : Hid (∀ W, Upd [] wr W → Calls Try.prog 14 #[.pointer (some ⟨B, 0, none⟩), .agg #[.int .i64 x0, .int .i64 x1, .string x2]] W fun e w' => e = .returned (.int .i64 x) ∧ Pair w1 w' B B' N' r) := fun W hW => by
          have c : Calls Try.prog 14 #[.pointer (some ⟨B, 0, none⟩), .agg #[.int .i64 x0, .int .i64 x1, .string x2]] W _ := pair_send (hP.out.keep hW) hM.out hq500 ⟨x0, x1, x2⟩
          rw [(same_send hM.out.same _).1, ← hx, ← hN'] at c
          exact c
        have HS15 : Hid (∀ W, Pair w1 W B B' N' r → Calls Try.prog 15 #[.pointer (some ⟨B', 0, none⟩), .agg #[.int .i64 x0, .int .i64 x1, .string x2]] W fun e w' => e = .returned (.int .i64 x) ∧ Pair w1 w' B B' N' r') := fun W hW => by
          have c : Calls Try.prog 15 #[.pointer (some ⟨B', 0, none⟩), .agg #[.int .i64 x0, .int .i64 x1, .string x2]] W _ := pair_rsend hW hM.out hq500 ⟨x0, x1, x2⟩
          rw [← hx, ← hr'] at c
          exact c
        have HCS : Hid (N'.count = r'.cps.length) := HM'.out.same.c
        obtain ⟨cnt, hcnt⟩ : ∃ cnt, cnt = r'.cps.length := ⟨_, rfl⟩
        have HW21 : Hid (∀ W, Pair w1 W B B' N' r' → Calls Try.prog 21 #[.pointer (some ⟨B, 0, none⟩)] W fun e w' => e = .returned (.int .i64 cnt) ∧ W = w') := fun W hW => by
          have := pair_waiting hW
          rwa [HCS.out, ← hcnt] at this
        have HW22 : Hid (∀ W, Pair w1 W B B' N' r' → Calls Try.prog 22 #[.pointer (some ⟨B', 0, none⟩)] W fun e w' => e = .returned (.int .i64 cnt) ∧ W = w') := fun W hW => by
          have := pair_rwaiting hW
          rwa [← hcnt] at this
        have hcb : ((cnt : Int) != (cnt : Int)) = false := by simp
        have hxb : (x != x) = false := by simp
        clear hN' hr' hx hcnt
        go_wp2_with fail
        go_region_held3 (fun w' => w'.cell? ⟨b, ob + q * 5 + 2, none⟩ = some (.int .i64 x0) ∧ w'.cell? ⟨b, ob + q * 5 + 3, none⟩ = some (.int .i64 x1) ∧ w'.cell? ⟨b, ob + q * 5 + 4, none⟩ = some (.string x2)) (go_keep) (first | (go_at_call 14; refine (HS14.out _ (by first | exact Upd.refl _ _ | exact (Upd.refl _ _).drew)).mono ?_; rintro e w5 ⟨rfl, hp5⟩; have HP5 := Lib.hid hp5; obtain ⟨j0, j1, j2, j3, j4⟩ := HCL.out _ hp5.upd; simp only at j2 j3 j4; clear hp5 j0 j1) | (go_at_call 15; refine (HS15.out _ HP5.out).mono ?_; rintro e w6 ⟨rfl, hp6⟩; have HPF := Lib.hid hp6; obtain ⟨i0, i1, i2, i3, i4⟩ := HCL.out _ hp6.upd; simp only at i2 i3 i4; clear hp6 i0 i1))
        go_wp2_with (first | (go_at_call 21; refine (HW21.out _ HPF.out).mono ?_; rintro e w8 ⟨rfl, rfl⟩) | (go_at_call 22; refine (HW22.out _ HPF.out).mono ?_; rintro e w8 ⟨rfl, rfl⟩))
        exact ⟨⟨q + 1, by omega, by go_num, N', r', HM', HPF⟩, by simp [intOf]; omega⟩
      · have t0 : (kd == 0) = false := by simpa using k0
        clear k0
        by_cases k1 : kd = 1
        · subst k1
          by_cases hh : N.has hs = true
          · have hlt := has_lt hh
            have hge : 0 ≤ hs := by simp only [NS.has, decide_eq_true_eq] at hh; omega
            obtain ⟨h9, rfl⟩ := Int.eq_ofNat_of_zero_le hge
            have hh9 : h9 < m := by rw [HNM.out]; simpa using hlt
            obtain ⟨N', hN'⟩ : ∃ N', N' = N.recv h9 := ⟨_, rfl⟩
            obtain ⟨r', hr'⟩ : ∃ r', r' = r.recv h9 := ⟨_, rfl⟩
            have HM' : Hid (MI m (q + 1) N' r') := by rw [hN', hr']; exact mi_recv hM.out hh9
            have HG : Hid (N.got h9 = r.got h9) := same_got hM.out.same (by rw [hM.out.rn]; exact hh9)
            have hgl : (r.got h9).length ≤ 100000000 := by
              rw [← HG.out]
              unfold NS.got
              rw [List.length_map]
              have := NS.taken_le N h9; have := hM.out.wf.way_le h9; have := hM.out.wf.lim; omega
            have HGL := Lib.hid hgl
            have HR16 : Hid (Calls Try.prog 16 #[.pointer (some ⟨B, 0, none⟩), .int .i64 h9] wr fun e w' => ∃ v, e = .returned (.tuple #[v, .int .i64 0]) ∧ PairV w1 w' B B' N' r v (r.got h9)) := by
              have c := pair_recv hP.out hM.out h9 hh9
              rw [HG.out, ← hN'] at c
              exact c
            have HR17 : Hid (∀ W v, PairV w1 W B B' N' r v (r.got h9) → Calls Try.prog 17 #[.pointer (some ⟨B', 0, none⟩), .int .i64 h9] W fun e w' => ∃ v2, e = .returned (.tuple #[v2, .int .i64 0]) ∧ PkList w' v2 (r.got h9) ∧ PkList w' v (r.got h9) ∧ Pair w1 w' B B' N' r') := fun W v hV => by
              have c := pair_rrecv hV hM.out hq500 h9 hh9
              rw [← hr'] at c
              exact c
            obtain ⟨gl, hgle⟩ : ∃ gl, gl = (r.got h9).length := ⟨_, rfl⟩
            have HGE := Lib.hid hgle
            have HCS : Hid (N'.count = r'.cps.length) := HM'.out.same.c
            obtain ⟨cnt, hcnt⟩ : ∃ cnt, cnt = r'.cps.length := ⟨_, rfl⟩
            have HW21 : Hid (∀ W, Pair w1 W B B' N' r' → Calls Try.prog 21 #[.pointer (some ⟨B, 0, none⟩)] W fun e w' => e = .returned (.int .i64 cnt) ∧ W = w') := fun W hW => by
              have := pair_waiting hW
              rwa [HCS.out, ← hcnt] at this
            have HW22 : Hid (∀ W, Pair w1 W B B' N' r' → Calls Try.prog 22 #[.pointer (some ⟨B', 0, none⟩)] W fun e w' => e = .returned (.int .i64 cnt) ∧ W = w') := fun W hW => by
              have := pair_rwaiting hW
              rwa [← hcnt] at this
            have hcb : ((cnt : Int) != (cnt : Int)) = false := by simp
            clear hN' hr' hcnt hgl hgle hlt hge hh
            go_wp2_with (first | (go_at_call 16; refine HR16.out.mono ?_; rintro e w5 ⟨v5, rfl, hp5⟩; have HP5 := Lib.hid hp5; obtain ⟨a5, c5, hv5, -⟩ := hp5.read; rw [← HGE.out] at hv5; subst hv5; obtain ⟨j0, j1, j2, j3, j4⟩ := HCL.out _ hp5.upd; simp only at j1; clear hp5 j0 j2 j3 j4) | (go_at_call 17; refine (HR17.out _ _ HP5.out).mono ?_; rintro e w6 ⟨v6, rfl, hl6, hl5, hp6⟩; have HP6 := Lib.hid hp6; have HL6 := Lib.hid hl6; have HL5 := Lib.hid hl5; obtain ⟨a6, c6, hv6, -⟩ := hl6; rw [← HGE.out] at hv6; subst hv6; clear hp6 hl5) | (go_at_call 18; refine (packets_any HL5.out HL6.out HGL.out).mono ?_; rintro e w7 ⟨rfl, hu7⟩; have HPF := Lib.hid (HP6.out.keep hu7); clear hu7) | (go_at_call 21; refine (HW21.out _ HPF.out).mono ?_; rintro e w8 ⟨rfl, rfl⟩) | (go_at_call 22; refine (HW22.out _ HPF.out).mono ?_; rintro e w8 ⟨rfl, rfl⟩))
            exact ⟨⟨q + 1, by omega, by go_num, N', r', HM', HPF⟩, by simp [intOf]; omega⟩
          · have hh : N.has hs = false := by simpa using hh
            have hrh : r.has hs = false := by rw [← hM.out.same.has]; exact hh
            obtain ⟨N', hN'⟩ : ∃ N', N' = N := ⟨_, rfl⟩
            obtain ⟨r', hr'⟩ : ∃ r', r' = r := ⟨_, rfl⟩
            have HM' : Hid (MI m (q + 1) N' r') := by rw [hN', hr']; exact mi_stay hM.out
            have HPN : Hid (Pair w1 wr B B' N' r') := by rw [hN', hr']; exact hP.out
            have HR16 : Hid (Calls Try.prog 16 #[.pointer (some ⟨B, 0, none⟩), .int .i64 hs] wr fun e w' => e = .returned (.tuple #[.slice none 0 0, .int .i64 1]) ∧ wr = w') := pair_bad hP.out hM.out hs hh
            have HR17 : Hid (Calls Try.prog 17 #[.pointer (some ⟨B', 0, none⟩), .int .i64 hs] wr fun e w' => e = .returned (.tuple #[.slice none 0 0, .int .i64 1]) ∧ wr = w') := pair_rbad hP.out hs hrh
            have HPK : Hid (∀ W, Calls Try.prog 18 #[.slice none 0 0, .slice none 0 0] W fun e w' => e = .returned (.bool true) ∧ Upd [] W w') := fun W => by
              have := packets_any (va := .slice none 0 0) (vb := .slice none 0 0) (xs := []) (ys := []) (w := W) ⟨none, 0, rfl, fun h => absurd rfl h⟩ ⟨none, 0, rfl, fun h => absurd rfl h⟩ (Nat.zero_le _)
              rwa [decide_eq_true rfl] at this
            have HCS : Hid (N'.count = r'.cps.length) := HM'.out.same.c
            obtain ⟨cnt, hcnt⟩ : ∃ cnt, cnt = r'.cps.length := ⟨_, rfl⟩
            have HW21 : Hid (∀ W, Pair w1 W B B' N' r' → Calls Try.prog 21 #[.pointer (some ⟨B, 0, none⟩)] W fun e w' => e = .returned (.int .i64 cnt) ∧ W = w') := fun W hW => by
              have := pair_waiting hW
              rwa [HCS.out, ← hcnt] at this
            have HW22 : Hid (∀ W, Pair w1 W B B' N' r' → Calls Try.prog 22 #[.pointer (some ⟨B', 0, none⟩)] W fun e w' => e = .returned (.int .i64 cnt) ∧ W = w') := fun W hW => by
              have := pair_rwaiting hW
              rwa [← hcnt] at this
            have hcb : ((cnt : Int) != (cnt : Int)) = false := by simp
            clear hN' hr' hcnt hh hrh
            go_wp2_with (first | (go_at_call 16; refine HR16.out.mono ?_; rintro e w5 ⟨rfl, rfl⟩) | (go_at_call 17; refine HR17.out.mono ?_; rintro e w5 ⟨rfl, rfl⟩) | (go_at_call 18; refine (HPK.out _).mono ?_; rintro e w7 ⟨rfl, hu7⟩; have HPF := Lib.hid (HPN.out.keep hu7); clear hu7) | (go_at_call 21; refine (HW21.out _ HPF.out).mono ?_; rintro e w8 ⟨rfl, rfl⟩) | (go_at_call 22; refine (HW22.out _ HPF.out).mono ?_; rintro e w8 ⟨rfl, rfl⟩))
            exact ⟨⟨q + 1, by omega, by go_num, N', r', HM', HPF⟩, by simp [intOf]; omega⟩
        · have t1 : (kd == 1) = false := by simpa using k1
          clear k1
          obtain ⟨N', hN'⟩ : ∃ N', N' = N.step := ⟨_, rfl⟩
          obtain ⟨r', hr'⟩ : ∃ r', r' = r.step := ⟨_, rfl⟩
          have HM' : Hid (MI m (q + 1) N' r') := by rw [hN', hr']; exact mi_step hM.out
          have HS19 : Hid (Calls Try.prog 19 #[.pointer (some ⟨B, 0, none⟩)] wr fun e w' => e = .returned (.tuple #[]) ∧ Pair w1 w' B B' N' r) := by rw [hN']; exact pair_step hP.out hM.out hq500
          have HS20 : Hid (∀ W, Pair w1 W B B' N' r → Calls Try.prog 20 #[.pointer (some ⟨B', 0, none⟩)] W fun e w' => e = .returned (.tuple #[]) ∧ Pair w1 w' B B' N' r') := fun W hW => by rw [hr']; exact pair_rstep hW hM.out hq500
          have HCS : Hid (N'.count = r'.cps.length) := HM'.out.same.c
          obtain ⟨cnt, hcnt⟩ : ∃ cnt, cnt = r'.cps.length := ⟨_, rfl⟩
          have HW21 : Hid (∀ W, Pair w1 W B B' N' r' → Calls Try.prog 21 #[.pointer (some ⟨B, 0, none⟩)] W fun e w' => e = .returned (.int .i64 cnt) ∧ W = w') := fun W hW => by
            have := pair_waiting hW
            rwa [HCS.out, ← hcnt] at this
          have HW22 : Hid (∀ W, Pair w1 W B B' N' r' → Calls Try.prog 22 #[.pointer (some ⟨B', 0, none⟩)] W fun e w' => e = .returned (.int .i64 cnt) ∧ W = w') := fun W hW => by
            have := pair_rwaiting hW
            rwa [← hcnt] at this
          have hcb : ((cnt : Int) != (cnt : Int)) = false := by simp
          clear hN' hr' hcnt
          go_wp2_with (first | (go_at_call 19; refine HS19.out.mono ?_; rintro e w5 ⟨rfl, hp5⟩; have HP5 := Lib.hid hp5; clear hp5) | (go_at_call 20; refine (HS20.out _ HP5.out).mono ?_; rintro e w6 ⟨rfl, hp6⟩; have HPF := Lib.hid hp6; clear hp6) | (go_at_call 21; refine (HW21.out _ HPF.out).mono ?_; rintro e w8 ⟨rfl, rfl⟩) | (go_at_call 22; refine (HW22.out _ HPF.out).mono ?_; rintro e w8 ⟨rfl, rfl⟩))
          exact ⟨⟨q + 1, by omega, by go_num, N', r', HM', HPF⟩, by simp [intOf]; omega⟩
    · go_wp2_with fail
      go_ret
      exact ⟨rfl, HU1.out.trans hP.out.upd⟩

set_option maxRecDepth 100000 in
set_option maxHeartbeats 8000000 in
theorem matches_walk (w : World) (n : Int) (fa : Option Addr) (fc : Nat) (fs : List Fa) (oa : Option Addr) (oc : Nat) (l : List OpR) (A : Args w fa fc fs oa l) :
    Calls Try.prog 3 #[.int .i64 n, .slice fa fs.length fc, .slice oa l.length oc] w fun e w' => e = .returned (.bool true) ∧ Upd [] w w' := by
  have hfm := A.f.len
  have hlm := A.o.len
  unfold maxLen at hfm hlm
  by_cases hf : 500 < fs.length
  · clear A
    go_enter Try.func3, Try.ntmps3
    go_wp2_with (first | (go_at_call 10; refine (head_any _).mono ?_; rintro e w1 ⟨rfl, hu1⟩; have HU1 := Lib.hid hu1; clear hu1) | fail)
    go_ret
    exact ⟨rfl, HU1.out⟩
  by_cases hl : 500 < l.length
  · clear A
    go_enter Try.func3, Try.ntmps3
    go_wp2_with (first | (go_at_call 10; refine (head_any _).mono ?_; rintro e w1 ⟨rfl, hu1⟩; have HU1 := Lib.hid hu1; clear hu1) | fail)
    go_ret
    exact ⟨rfl, HU1.out⟩
  cases hsh : shortB l with
  | false =>
    have HA := Lib.hid A
    have HSH : Hid (∀ W, Upd [] w W → Calls Try.prog 11 #[.slice oa l.length oc] W fun e w' => e = .returned (.bool false) ∧ W = w') := fun W hW => by have := short_any oa oc l (HA.out.o.upd hW); rwa [hsh] at this
    clear A hsh
    go_enter Try.func3, Try.ntmps3
    go_wp2_with (first | (go_at_call 10; refine (head_any _).mono ?_; rintro e w1 ⟨rfl, hu1⟩; have HU1 := Lib.hid hu1; clear hu1) | (go_at_call 11; refine (HSH.out _ HU1.out).mono ?_; rintro e w2 ⟨rfl, rfl⟩))
    go_ret
    exact ⟨rfl, HU1.out⟩
  | true =>
    by_cases hn : n < 1 ∨ 12 < n
    · exact matches_nil w n fa fc fs oa oc l A (by omega) (by omega) hsh (.inl hn)
    · obtain ⟨m, rfl⟩ := Int.eq_ofNat_of_zero_le (show 0 ≤ n by omega)
      cases hr : rightB fs with
      | false => exact matches_nil w m fa fc fs oa oc l A (by omega) (by omega) hsh (.inr ⟨m, rfl, by omega, by omega, hr⟩)
      | true => exact matches_good w m fa fc fs oa oc l A (by omega) (by omega) hsh (by omega) (by omega) hr
end Go.Proofs.Ytlmfgdibodpniaa
