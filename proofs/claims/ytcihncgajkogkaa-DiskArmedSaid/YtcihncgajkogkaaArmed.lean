/- DiskArmed, walked. -/
import Derived.Test.YtcihncgajkogkaaTwo
namespace Go.Proofs.Ytcihncgajkogkaa
open Go.RowKit

set_option maxRecDepth 100000 in
set_option maxHeartbeats 8000000 in
theorem armed_main (w : World) (x af nw nb : Int) (h0 : 0 ≤ x) (h1 : x ≤ 255) (haf : af ≤ 9223372036854775807) (haf' : -9223372036854775808 ≤ af) (a1 a2 : Option Addr) (c1 c2 : Nat) (L1 L2 : List ActR) (A1 : ArgActs w a1 L1) (A2 : ArgActs w a2 L2)
    (k1 : okB L1 = true) (k2 : okB L2 = true) :
    Calls Try.prog 5 #[.int .u8 x, .slice a1 L1.length c1, .slice a2 L2.length c2, .int .i64 af, .int .i64 nw, .int .i64 nb] w fun e w' => e = .returned (.bool true) ∧ Upd [] w w' := by
  have hl1 := A1.len
  have hl2 := A2.len
  unfold maxLen at hl1 hl2
  have HO1 : Hid (∀ w', Upd [] w w' → Calls Try.prog 7 #[.slice a1 L1.length c1] w' fun e w'' => e = .returned (.bool true) ∧ w' = w'') := by
    intro w' hu; have := ok_gen a1 L1 c1 w' (A1.upd hu); rwa [k1] at this
  have HO2 : Hid (∀ w', Upd [] w w' → Calls Try.prog 7 #[.slice a2 L2.length c2] w' fun e w'' => e = .returned (.bool true) ∧ w' = w'') := by
    intro w' hu; have := ok_gen a2 L2 c2 w' (A2.upd hu); rwa [k2] at this
  obtain ⟨s1, K1⟩ := okB_short k1
  obtain ⟨s2, K2⟩ := okB_short k2
  have KK1 := Lib.hid K1
  have KK2 := Lib.hid K2
  clear K1 K2 k1 k2
  obtain ⟨n, hn⟩ : ∃ n : Nat, 1 + x % 12 = n := ⟨(1 + x % 12).toNat, by omega⟩
  have hn1 : 1 ≤ n := by omega
  have hn2 : n ≤ 12 := by omega
  have HN := Lib.hid hn
  clear hn
  go_enter Try.func5, Try.ntmps5
  go_wp2_with fail
  refine (head_any w).mono ?_
  rintro e w1 ⟨rfl, hu1⟩
  have HU1 := Lib.hid hu1
  clear hu1
  go_wp2_with fail
  refine (HO1.out w1 HU1.out).mono ?_
  rintro e w2 ⟨rfl, rfl⟩
  go_wp2_with fail
  refine (HO2.out w1 HU1.out).mono ?_
  rintro e w2 ⟨rfl, rfl⟩
  go_wp2_with fail
  have c := size_any x w1 h0 h1
  rw [HN.out] at c
  refine c.mono ?_
  rintro e w2 ⟨rfl, rfl⟩
  clear c
  go_wp2_with fail
  refine (live_new w w1 HU1.out n hn1 (by omega)).mono ?_
  rintro e w2 ⟨Ba, rfl, hl⟩
  have HL1 := Lib.hid hl
  clear hl HU1 HO1 HO2 h0 h1
  go_wp2_with fail
  refine (live2_new HL1.out n hn1 (by omega)).mono ?_
  rintro e w3 ⟨Bb, rfl, hl⟩
  have HL2 := Lib.hid hl
  clear hl HL1
  go_wp2
  go_loopw [17] (fun i wr => ∃ k : Nat, k ≤ L1.length ∧ i = .int .i64 k ∧ Live2 w wr Ba ((DS.new n).acts (L1.take k)) Bb ((DS.new n).acts (L1.take k))) (fun i _ => L1.length - (intOf i).toNat)
  case atStart => exact ⟨0, Nat.zero_le _, rfl, HL2.out⟩
  case round =>
    obtain ⟨k, hk, rfl, hl⟩ := hrel
    have HL := Lib.hid hl
    clear hl
    by_cases hlt : k < L1.length
    · obtain ⟨b, o, ha, hx⟩ := A1.lies (by omega)
      subst ha
      have HX : Hid (∀ w', Upd [] w w' → ActAt w' b (o + k * 6) L1[k]) := fun w' hu => (hx.upd hu (by simp)).at_ k hlt
      have hwf := hx.wf k hlt
      have htx := KK1.out _ (List.getElem_mem hlt)
      have hstep := acts_take (DS.new n) L1 k hlt
      obtain ⟨y, hy⟩ : ∃ y, y = L1[k] := ⟨_, rfl⟩
      rw [← hy] at HX hwf htx hstep
      have HST := Lib.hid hstep
      have hq : ((DS.new n).acts (L1.take k)).q.length < 1000000 := by
        have := acts_q (DS.new n) (L1.take k)
        rw [List.length_take] at this
        simp only [DS.new, List.length_nil] at this ⊢
        omega
      have HQ := Lib.hid hq
      obtain ⟨d0, d1, d2, d3, d4, d5⟩ := HX.out wr HL.out.upd
      have HW := Lib.hid hwf
      clear hx hstep hy hq hwf
      go_wp2_with fail
      refine (live2_do HL.out HQ.out y htx HW.out.2).mono ?_
      rintro e w4 ⟨⟨t, m', rfl⟩, hl⟩
      have HL4 := Lib.hid hl.swap
      clear hl d0 d1 d2 d3 d4 d5
      obtain ⟨d0, d1, d2, d3, d4, d5⟩ := HX.out w4 HL4.out.upd
      go_wp2_with fail
      refine (live2_do HL4.out HQ.out y htx HW.out.2).mono ?_
      rintro e w5 ⟨⟨t2, m2, rfl⟩, hl⟩
      rw [← HST.out] at hl
      have HL5 := Lib.hid hl.swap
      clear hl d0 d1 d2 d3 d4 d5
      go_wp2
      go_roundw
      case rel => exact ⟨k + 1, by omega, by go_num, HL5.out⟩
      case measure => simp [intOf]; omega
    · have e : k = L1.length := by omega
      have HL3 : Hid (Live2 w wr Ba ((DS.new n).acts L1) Bb ((DS.new n).acts L1)) := by
        have h2 := HL.out
        rw [e, List.take_length] at h2
        exact h2
      clear HL e HL2
      obtain ⟨S, hS⟩ : ∃ S, S = (DS.new n).acts L1 := ⟨_, rfl⟩
      have hSn : S.n = n := by rw [hS, acts_n]; rfl
      have hSq : S.q.length ≤ 60 := by
        have := acts_q (DS.new n) L1
        rw [hS]
        simp only [DS.new, List.length_nil] at this ⊢
        omega
      rw [← hS] at HL3
      clear hS
      go_wp2_with fail
      refine (live2_start HL3.out).mono ?_
      rintro e w4 ⟨rfl, hl⟩
      have HL4 := Lib.hid hl.swap
      clear hl HL3
      go_wp2_with fail
      refine (live2_start HL4.out).mono ?_
      rintro e w5 ⟨rfl, hl⟩
      have HL5 := Lib.hid hl.swap
      clear hl HL4
      go_wp2_with fail
      have c := live2_arm HL5.out af nw nb haf
      rw [armS_arm S.start rfl] at c
      refine c.mono ?_
      rintro e w6 ⟨rfl, hl⟩
      have HL6 := Lib.hid hl
      clear hl HL5 c
      go_wp2
      go_loopw [19, 18] (fun i d wr => ∃ (k : Nat) (s : DS) (lf : Int), k ≤ L2.length ∧ i = .int .i64 k ∧ d = .int .i64 lf ∧ Live2 w wr Ba (armS s af lf nw nb) Bb s ∧ Hid (s.off = false ∧ s.armed = none ∧ s.n = n) ∧ s.q.length ≤ 60 + k ∧ LeftOk af lf) (fun i _ _ => L2.length - (intOf i).toNat)
      case atStart => exact ⟨0, S.start, af, Nat.zero_le _, rfl, rfl, HL6.out, ⟨rfl, rfl, hSn⟩, by simpa [DS.start] using hSq, ⟨fun _ => rfl, fun h => ⟨h, by omega⟩⟩⟩
      case round =>
        obtain ⟨k', s, lf, hk', rfl, rfl, hl, HI, hqs, hlo⟩ := hrel
        have HL := Lib.hid hl
        have HLO := Lib.hid hlo
        have hlb : -9223372036854775808 ≤ lf ∧ lf ≤ 9223372036854775807 := by
          rcases Int.lt_or_le af 0 with h | h
          · have := hlo.neg h; omega
          · have := hlo.pos h; omega
        clear hl HL6
        by_cases hlt2 : k' < L2.length
        · obtain ⟨b, o, ha, hx⟩ := A2.lies (by omega)
          subst ha
          have HX : Hid (∀ w', Upd [] w w' → ActAt w' b (o + k' * 6) L2[k']) := fun w' hu => (hx.upd hu (by simp)).at_ k' hlt2
          have htx := KK2.out _ (List.getElem_mem hlt2)
          obtain ⟨y, hy⟩ : ∃ y, y = L2[k'] := ⟨_, rfl⟩
          rw [← hy] at HX htx
          have hsz : y.txt.size ≤ 100 := size_txt y htx
          clear hx hy
          have HFA : Hid (∀ W : World, W = W) := fun _ => rfl
          by_cases hkd : y.kind = 2
          · have hkb : (y.kind == 2) = true := by rw [beq_iff_eq]; exact hkd
            clear hkd
            rcases Int.lt_trichotomy lf 0 with hz | hz | hz
            · have hz' : ¬ lf = 0 := by omega
              have hzb : (lf == 0) = false := by rw [beq_eq_false_iff_ne]; omega
              obtain ⟨d0, d1, d2, d3, d4, d5⟩ := HX.out wr HL.out.upd
              have c := live2_sync HL.out.swap (by omega)
              rw [plain_sync s HI.out.1 HI.out.2.1] at c
              go_wp2_with fail
              refine c.mono ?_
              rintro e w8 ⟨rfl, hl⟩
              have HL8 := Lib.hid hl.swap
              clear hl d0 d1 d2 d3 d4 d5 c
              have c := live2_sync HL8.out (by show s.q.length ≤ 1000000; omega)
              rw [armS_sync s HI.out.1 HI.out.2.1 af lf nw nb HLO.out, if_neg hz'] at c
              go_wp2_with fail
              refine c.mono ?_
              rintro e w9 ⟨rfl, hl⟩
              have HD : Hid (decL lf = lf) := by unfold Hid decL; rw [if_neg (by omega)]
              have HLO2 : Hid (LeftOk af (lf)) := by have := HLO.out.dec; rwa [HD.out] at this
              rw [HD.out] at hl
              have HL9 := Lib.hid hl
              clear c hl HL8 hz'
              go_wp2
              go_roundw
              case rel => exact ⟨k' + 1, { s with st := settleL s.st s.q, q := [] }, lf, by omega, by go_num, rfl, HL9.out, HI.out, by simp, HLO2.out⟩
              case measure => simp [intOf]; omega
            · subst hz
              have HQ := Lib.hid hqs
              have hafp : 0 ≤ af := by
                rcases Int.lt_or_le af 0 with h | h
                · have := HLO.out.neg h; omega
                · exact h
              obtain ⟨d0, d1, d2, d3, d4, d5⟩ := HX.out wr HL.out.upd
              go_wp2_with fail
              refine (live2_fail HL.out.swap (by omega) nw nb).mono ?_
              rintro e w8 ⟨rfl, hl⟩
              have HL8 := Lib.hid hl.swap
              clear hl d0 d1 d2 d3 d4 d5
              have c := live2_sync HL8.out (by show s.q.length ≤ 1000000; omega)
              rw [armS_sync s HI.out.1 HI.out.2.1 af 0 nw nb HLO.out, if_pos rfl] at c
              go_wp2_with fail
              refine c.mono ?_
              rintro e w9 ⟨rfl, hl⟩
              have HL9 := Lib.hid hl
              have hnn : (s.fail nw nb).start.n = n := by
                unfold DS.fail DS.start
                split <;> exact HI.out.2.2
              clear c hl HL8
              go_wp2_with fail
              refine (live2_start HL9.out).mono ?_
              rintro e w20 ⟨rfl, hl⟩
              have HL20 := Lib.hid hl.swap
              clear hl
              go_wp2_with fail
              refine (live2_start HL20.out).mono ?_
              rintro e w21 ⟨rfl, hl⟩
              have HL21 := Lib.hid hl.swap
              clear hl HL20
              have c := live_contents' HL21.out.left (by have := fail_q s nw nb; simp only [DS.start]; omega) rfl
              have hn21 : (s.fail nw nb).start.n = n := by exact hnn
              rw [hn21] at c
              go_wp2_with fail
              refine c.mono ?_
              rintro e w22 ⟨g3, cp3, rfl, hg3, hg3', hs3, hu22⟩
              have HS3 := Lib.hid hs3
              have HL22 := Lib.hid (HL21.out.keep hu22).swap
              clear c hs3 hn21
              have c := live_contents' HL22.out.left (by have := fail_q s nw nb; simp only [DS.start]; omega) rfl
              have hn22 : (s.fail nw nb).start.n = n := by exact hnn
              rw [hn22] at c
              go_wp2_with fail
              refine c.mono ?_
              rintro e w23 ⟨g4, cp4, rfl, hg4, hg4', hs4, hu23⟩
              have HS4 := Lib.hid hs4
              have HU23 : Hid (Upd [] w w23) := HL22.out.upd.trans hu23
              have HC : Hid (Calls Try.prog 18 #[.slice (some ⟨g3, 0, none⟩) n cp3, .slice (some ⟨g4, 0, none⟩) n cp4] w23 fun e w' => e = .returned (.bool true) ∧ Upd [] w23 w') := by
                have hA : StrsAt w23 w21.heap.size (.slice (some ⟨g3, 0, none⟩) n cp3) (s.fail nw nb).start.all := ownsRow_upd HS3.out fun k hk => hu23.block k (HS3.out.lt k hk).2 (by simp)
                have hB : StrsAt w23 w21.heap.size (.slice (some ⟨g4, 0, none⟩) n cp4) (s.fail nw nb).start.all := by
                  obtain ⟨q1, q2⟩ := HS4.out
                  refine ⟨q1, ?_⟩
                  rcases q2 with q2 | ⟨x1, x2, x3, x4, x5, x6⟩
                  · exact .inl q2
                  · exact .inr ⟨x1, x2, x3, x4, Nat.le_trans hu22.size x5, x6⟩
                have c := same_any w21.heap.size _ _ _ _ w23 hA hB (by rw [all_len]; show (s.fail nw nb).start.n ≤ 4000; rw [show (s.fail nw nb).start.n = n from hnn]; omega)
                rwa [decide_eq_true (show (s.fail nw nb).start.all = (s.fail nw nb).start.all from rfl)] at c
              clear c hs4 hn22 hu23 hu22
              go_wp2_with fail
              refine HC.out.mono ?_
              rintro e w24 ⟨rfl, hu24⟩
              have HU24 := Lib.hid (HU23.out.trans hu24)
              clear hu24
              go_wp2
              go_ret
              exact ⟨rfl, HU24.out⟩
            · have hz' : ¬ lf = 0 := by omega
              have hzb : (lf == 0) = false := by rw [beq_eq_false_iff_ne]; omega
              obtain ⟨d0, d1, d2, d3, d4, d5⟩ := HX.out wr HL.out.upd
              have c := live2_sync HL.out.swap (by omega)
              rw [plain_sync s HI.out.1 HI.out.2.1] at c
              go_wp2_with fail
              refine c.mono ?_
              rintro e w8 ⟨rfl, hl⟩
              have HL8 := Lib.hid hl.swap
              clear hl d0 d1 d2 d3 d4 d5 c
              have c := live2_sync HL8.out (by show s.q.length ≤ 1000000; omega)
              rw [armS_sync s HI.out.1 HI.out.2.1 af lf nw nb HLO.out, if_neg hz'] at c
              go_wp2_with fail
              refine c.mono ?_
              rintro e w9 ⟨rfl, hl⟩
              have HD : Hid (decL lf = lf - 1) := by unfold Hid decL; rw [if_pos (by omega)]
              have HLO2 : Hid (LeftOk af (lf - 1)) := by have := HLO.out.dec; rwa [HD.out] at this
              rw [HD.out] at hl
              have HL9 := Lib.hid hl
              clear c hl HL8 hz'
              go_wp2
              go_roundw
              case rel => exact ⟨k' + 1, { s with st := settleL s.st s.q, q := [] }, lf - 1, by omega, by go_num, rfl, HL9.out, HI.out, by simp, HLO2.out⟩
              case measure => simp [intOf]; omega
          · have hkb : (y.kind == 2) = false := by rw [beq_eq_false_iff_ne]; exact hkd
            clear hkd
            by_cases hv : 0 ≤ y.sector ∧ y.sector < n ∧ (txtOf y.odd y.text).size = 32
            · obtain ⟨j, hj⟩ : ∃ j : Nat, y.sector = j := ⟨y.sector.toNat, by omega⟩
              have hjn : j < n := by omega
              have HT : Hid ((txtOf y.odd y.text).size = 32) := hv.2.2
              have HX' : Hid (∀ w', Upd [] w w' → ActAt w' b (o + k' * 6) ⟨y.kind, j, y.bytes, y.text, y.odd, y.after⟩) := by
                intro w' hu
                have := HX.out w' hu
                rw [← hj]
                exact this
              clear hv hj HX
              rcases Int.lt_trichotomy lf 0 with hz | hz | hz
              · have hz' : ¬ lf = 0 := by omega
                have HCB : Hid (∀ w', Live2 w w' Ba (armS s af lf nw nb) Bb s → Calls Try.prog 14 #[.pointer (some ⟨Bb, 0, none⟩), .int .i64 j, .string (txtOf y.odd y.text)] w' fun e w'' => e = .returned (.int .i64 0) ∧ Live2 w w'' Ba (armS s af lf nw nb) Bb (s.push (j, (txtOf y.odd y.text)))) := by
                  intro w' hl
                  have c := live2_write hl.swap (by omega) j (txtOf y.odd y.text) (Nat.le_trans hsz (by decide))
                  rw [write_ok s HI.out.1 HI.out.2.1 j (by rw [HI.out.2.2]; exact hjn) (txtOf y.odd y.text) HT.out] at c
                  exact c.mono fun e w'' hh => ⟨hh.1, hh.2.swap⟩
                have hzb : (lf == 0) = false := by rw [beq_eq_false_iff_ne]; omega
                have HD : Hid (decL lf = lf) := by unfold Hid decL; rw [if_neg (by omega)]
                have HLO2 : Hid (LeftOk af (lf)) := by have := HLO.out.dec; rwa [HD.out] at this
                have HCA : Hid (∀ w', Live2 w w' Ba (armS s af lf nw nb) Bb (s.push (j, (txtOf y.odd y.text))) → Calls Try.prog 14 #[.pointer (some ⟨Ba, 0, none⟩), .int .i64 j, .string (txtOf y.odd y.text)] w' fun e w'' => e = .returned (.int .i64 0) ∧ Live2 w w'' Ba (armS (s.push (j, (txtOf y.odd y.text))) af (lf) nw nb) Bb (s.push (j, (txtOf y.odd y.text)))) := by
                  intro w' hl
                  have c := live2_write hl (by show s.q.length < 1000000; omega) j (txtOf y.odd y.text) (Nat.le_trans hsz (by decide))
                  rwa [armS_write s HI.out.1 HI.out.2.1 af lf nw nb HLO.out j (by rw [HI.out.2.2]; exact hjn) (txtOf y.odd y.text) HT.out, if_neg hz', HD.out] at c
                clear hz'
                obtain ⟨d0, d1, d2, d3, d4, d5⟩ := HX'.out wr HL.out.upd
                simp only at d0 d1 d2 d3 d4 d5
                go_wp2_with fail
                have r0 := fun p : After wr => p.cell d0
                have r1 := fun p : After wr => p.cell d1
                have r2 := fun p : After wr => p.cell d2
                have r3 := fun p : After wr => p.cell d3
                have r4 := fun p : After wr => p.cell d4
                have r5 := fun p : After wr => p.cell d5
                refine region_after 11 (by kernel_rfl) (by kernel_rfl) ?_
                simp only [List.take_succ_cons, List.take_zero, List.drop_succ_cons, List.drop_zero]
                repeat (go_big_quiet_step ((go_at_call 15; exact After.call _ (text_raw _ _ _ _ _ _ _ htx))))
                refine wpQuiet_nil ?_
                rintro _ ⟨p8, rfl⟩
                go_wp2_with fail
                refine (HCB.out _ (HL.out.keep p8.upd)).mono ?_
                rintro e w9 ⟨rfl, hl⟩
                have HL9 := Lib.hid hl
                clear hl r0 r1 r2 r3 r4 r5 d0 d1 d2 d3 d4 d5
                obtain ⟨d0, d1, d2, d3, d4, d5⟩ := HX'.out w9 HL9.out.upd
                simp only at d0 d1 d2 d3 d4 d5
                go_wp2_with fail
                have r0 := fun p : After w9 => p.cell d0
                have r1 := fun p : After w9 => p.cell d1
                have r2 := fun p : After w9 => p.cell d2
                have r3 := fun p : After w9 => p.cell d3
                have r4 := fun p : After w9 => p.cell d4
                have r5 := fun p : After w9 => p.cell d5
                refine region_after 11 (by kernel_rfl) (by kernel_rfl) ?_
                simp only [List.take_succ_cons, List.take_zero, List.drop_succ_cons, List.drop_zero]
                repeat (go_big_quiet_step ((go_at_call 15; exact After.call _ (text_raw _ _ _ _ _ _ _ htx))))
                refine wpQuiet_nil ?_
                rintro _ ⟨p10, rfl⟩
                go_wp2_with fail
                refine (HCA.out _ (HL9.out.keep p10.upd)).mono ?_
                rintro e w11 ⟨rfl, hl⟩
                have HL11 := Lib.hid hl
                clear hl r0 r1 r2 r3 r4 r5 d0 d1 d2 d3 d4 d5
                go_wp2
                go_roundw
                case rel => exact ⟨k' + 1, s.push (j, (txtOf y.odd y.text)), lf, by omega, by go_num, rfl, HL11.out, HI.out, by simp [DS.push]; omega, HLO2.out⟩
                case measure => simp [intOf]; omega
              · have HCB : Hid (∀ w', Live2 w w' Ba (armS s af lf nw nb) Bb s → Calls Try.prog 14 #[.pointer (some ⟨Bb, 0, none⟩), .int .i64 j, .string (txtOf y.odd y.text)] w' fun e w'' => e = .returned (.int .i64 0) ∧ Live2 w w'' Ba (armS s af lf nw nb) Bb (s.push (j, (txtOf y.odd y.text)))) := by
                  intro w' hl
                  have c := live2_write hl.swap (by omega) j (txtOf y.odd y.text) (Nat.le_trans hsz (by decide))
                  rw [write_ok s HI.out.1 HI.out.2.1 j (by rw [HI.out.2.2]; exact hjn) (txtOf y.odd y.text) HT.out] at c
                  exact c.mono fun e w'' hh => ⟨hh.1, hh.2.swap⟩
                subst hz
                have HF : Hid (∀ w', Live2 w w' Ba (armS s af 0 nw nb) Bb ((s.push (j, (txtOf y.odd y.text))).fail nw nb) → Calls Try.prog 14 #[.pointer (some ⟨Ba, 0, none⟩), .int .i64 j, .string (txtOf y.odd y.text)] w' fun e w'' => e = .returned (.int .i64 21) ∧ Live2 w w'' Ba ((s.push (j, (txtOf y.odd y.text))).fail nw nb) Bb ((s.push (j, (txtOf y.odd y.text))).fail nw nb)) := by
                  intro w' hl
                  have c := live2_write hl (by show s.q.length < 1000000; omega) j (txtOf y.odd y.text) (Nat.le_trans hsz (by decide))
                  rwa [armS_write s HI.out.1 HI.out.2.1 af 0 nw nb HLO.out j (by rw [HI.out.2.2]; exact hjn) (txtOf y.odd y.text) HT.out, if_pos rfl] at c
                have hafp : 0 ≤ af := by
                  rcases Int.lt_or_le af 0 with h | h
                  · have := HLO.out.neg h; omega
                  · exact h
                obtain ⟨d0, d1, d2, d3, d4, d5⟩ := HX'.out wr HL.out.upd
                simp only at d0 d1 d2 d3 d4 d5
                go_wp2_with fail
                have r0 := fun p : After wr => p.cell d0
                have r1 := fun p : After wr => p.cell d1
                have r2 := fun p : After wr => p.cell d2
                have r3 := fun p : After wr => p.cell d3
                have r4 := fun p : After wr => p.cell d4
                have r5 := fun p : After wr => p.cell d5
                refine region_after 11 (by kernel_rfl) (by kernel_rfl) ?_
                simp only [List.take_succ_cons, List.take_zero, List.drop_succ_cons, List.drop_zero]
                repeat (go_big_quiet_step ((go_at_call 15; exact After.call _ (text_raw _ _ _ _ _ _ _ htx))))
                refine wpQuiet_nil ?_
                rintro _ ⟨p8, rfl⟩
                go_wp2_with fail
                refine (HCB.out _ (HL.out.keep p8.upd)).mono ?_
                rintro e w9 ⟨rfl, hl⟩
                have HL9 := Lib.hid hl
                clear hl r0 r1 r2 r3 r4 r5 d0 d1 d2 d3 d4 d5
                go_wp2_with fail
                refine (live2_fail HL9.out.swap (by simp [DS.push]; omega) nw nb).mono ?_
                rintro e w12 ⟨rfl, hl⟩
                have HL12 := Lib.hid hl.swap
                clear hl HL9
                obtain ⟨d0, d1, d2, d3, d4, d5⟩ := HX'.out w12 HL12.out.upd
                simp only at d0 d1 d2 d3 d4 d5
                go_wp2_with fail
                have r0 := fun p : After w12 => p.cell d0
                have r1 := fun p : After w12 => p.cell d1
                have r2 := fun p : After w12 => p.cell d2
                have r3 := fun p : After w12 => p.cell d3
                have r4 := fun p : After w12 => p.cell d4
                have r5 := fun p : After w12 => p.cell d5
                refine region_after 11 (by kernel_rfl) (by kernel_rfl) ?_
                simp only [List.take_succ_cons, List.take_zero, List.drop_succ_cons, List.drop_zero]
                repeat (go_big_quiet_step ((go_at_call 15; exact After.call _ (text_raw _ _ _ _ _ _ _ htx))))
                refine wpQuiet_nil ?_
                rintro _ ⟨p10, rfl⟩
                go_wp2_with fail
                refine (HF.out _ (HL12.out.keep p10.upd)).mono ?_
                rintro e w13 ⟨rfl, hl⟩
                have HL13 := Lib.hid hl
                have hnn : ((s.push (j, (txtOf y.odd y.text))).fail nw nb).start.n = n := by
                  unfold DS.fail DS.start
                  split <;> exact HI.out.2.2
                clear hl r0 r1 r2 r3 r4 r5 d0 d1 d2 d3 d4 d5
                go_wp2_with fail
                refine (live2_start HL13.out).mono ?_
                rintro e w20 ⟨rfl, hl⟩
                have HL20 := Lib.hid hl.swap
                clear hl
                go_wp2_with fail
                refine (live2_start HL20.out).mono ?_
                rintro e w21 ⟨rfl, hl⟩
                have HL21 := Lib.hid hl.swap
                clear hl HL20
                have c := live_contents' HL21.out.left (by have hpl : (s.push (j, (txtOf y.odd y.text))).q.length = s.q.length + 1 := (by simp [DS.push]); have := fail_q (s.push (j, (txtOf y.odd y.text))) nw nb; show ((s.push (j, (txtOf y.odd y.text))).fail nw nb).q.length ≤ 1000000; omega) rfl
                have hn21 : ((s.push (j, (txtOf y.odd y.text))).fail nw nb).start.n = n := by exact hnn
                rw [hn21] at c
                go_wp2_with fail
                refine c.mono ?_
                rintro e w22 ⟨g3, cp3, rfl, hg3, hg3', hs3, hu22⟩
                have HS3 := Lib.hid hs3
                have HL22 := Lib.hid (HL21.out.keep hu22).swap
                clear c hs3 hn21
                have c := live_contents' HL22.out.left (by have hpl : (s.push (j, (txtOf y.odd y.text))).q.length = s.q.length + 1 := (by simp [DS.push]); have := fail_q (s.push (j, (txtOf y.odd y.text))) nw nb; show ((s.push (j, (txtOf y.odd y.text))).fail nw nb).q.length ≤ 1000000; omega) rfl
                have hn22 : ((s.push (j, (txtOf y.odd y.text))).fail nw nb).start.n = n := by exact hnn
                rw [hn22] at c
                go_wp2_with fail
                refine c.mono ?_
                rintro e w23 ⟨g4, cp4, rfl, hg4, hg4', hs4, hu23⟩
                have HS4 := Lib.hid hs4
                have HU23 : Hid (Upd [] w w23) := HL22.out.upd.trans hu23
                have HC : Hid (Calls Try.prog 18 #[.slice (some ⟨g3, 0, none⟩) n cp3, .slice (some ⟨g4, 0, none⟩) n cp4] w23 fun e w' => e = .returned (.bool true) ∧ Upd [] w23 w') := by
                  have hA : StrsAt w23 w21.heap.size (.slice (some ⟨g3, 0, none⟩) n cp3) ((s.push (j, (txtOf y.odd y.text))).fail nw nb).start.all := ownsRow_upd HS3.out fun k hk => hu23.block k (HS3.out.lt k hk).2 (by simp)
                  have hB : StrsAt w23 w21.heap.size (.slice (some ⟨g4, 0, none⟩) n cp4) ((s.push (j, (txtOf y.odd y.text))).fail nw nb).start.all := by
                    obtain ⟨q1, q2⟩ := HS4.out
                    refine ⟨q1, ?_⟩
                    rcases q2 with q2 | ⟨x1, x2, x3, x4, x5, x6⟩
                    · exact .inl q2
                    · exact .inr ⟨x1, x2, x3, x4, Nat.le_trans hu22.size x5, x6⟩
                  have c := same_any w21.heap.size _ _ _ _ w23 hA hB (by rw [all_len]; show ((s.push (j, (txtOf y.odd y.text))).fail nw nb).start.n ≤ 4000; rw [show ((s.push (j, (txtOf y.odd y.text))).fail nw nb).start.n = n from hnn]; omega)
                  rwa [decide_eq_true (show ((s.push (j, (txtOf y.odd y.text))).fail nw nb).start.all = ((s.push (j, (txtOf y.odd y.text))).fail nw nb).start.all from rfl)] at c
                clear c hs4 hn22 hu23 hu22
                go_wp2_with fail
                refine HC.out.mono ?_
                rintro e w24 ⟨rfl, hu24⟩
                have HU24 := Lib.hid (HU23.out.trans hu24)
                clear hu24
                go_wp2
                go_ret
                exact ⟨rfl, HU24.out⟩
              · have hz' : ¬ lf = 0 := by omega
                have HCB : Hid (∀ w', Live2 w w' Ba (armS s af lf nw nb) Bb s → Calls Try.prog 14 #[.pointer (some ⟨Bb, 0, none⟩), .int .i64 j, .string (txtOf y.odd y.text)] w' fun e w'' => e = .returned (.int .i64 0) ∧ Live2 w w'' Ba (armS s af lf nw nb) Bb (s.push (j, (txtOf y.odd y.text)))) := by
                  intro w' hl
                  have c := live2_write hl.swap (by omega) j (txtOf y.odd y.text) (Nat.le_trans hsz (by decide))
                  rw [write_ok s HI.out.1 HI.out.2.1 j (by rw [HI.out.2.2]; exact hjn) (txtOf y.odd y.text) HT.out] at c
                  exact c.mono fun e w'' hh => ⟨hh.1, hh.2.swap⟩
                have hzb : (lf == 0) = false := by rw [beq_eq_false_iff_ne]; omega
                have HD : Hid (decL lf = lf - 1) := by unfold Hid decL; rw [if_pos (by omega)]
                have HLO2 : Hid (LeftOk af (lf - 1)) := by have := HLO.out.dec; rwa [HD.out] at this
                have HCA : Hid (∀ w', Live2 w w' Ba (armS s af lf nw nb) Bb (s.push (j, (txtOf y.odd y.text))) → Calls Try.prog 14 #[.pointer (some ⟨Ba, 0, none⟩), .int .i64 j, .string (txtOf y.odd y.text)] w' fun e w'' => e = .returned (.int .i64 0) ∧ Live2 w w'' Ba (armS (s.push (j, (txtOf y.odd y.text))) af (lf - 1) nw nb) Bb (s.push (j, (txtOf y.odd y.text)))) := by
                  intro w' hl
                  have c := live2_write hl (by show s.q.length < 1000000; omega) j (txtOf y.odd y.text) (Nat.le_trans hsz (by decide))
                  rwa [armS_write s HI.out.1 HI.out.2.1 af lf nw nb HLO.out j (by rw [HI.out.2.2]; exact hjn) (txtOf y.odd y.text) HT.out, if_neg hz', HD.out] at c
                clear hz'
                obtain ⟨d0, d1, d2, d3, d4, d5⟩ := HX'.out wr HL.out.upd
                simp only at d0 d1 d2 d3 d4 d5
                go_wp2_with fail
                have r0 := fun p : After wr => p.cell d0
                have r1 := fun p : After wr => p.cell d1
                have r2 := fun p : After wr => p.cell d2
                have r3 := fun p : After wr => p.cell d3
                have r4 := fun p : After wr => p.cell d4
                have r5 := fun p : After wr => p.cell d5
                refine region_after 11 (by kernel_rfl) (by kernel_rfl) ?_
                simp only [List.take_succ_cons, List.take_zero, List.drop_succ_cons, List.drop_zero]
                repeat (go_big_quiet_step ((go_at_call 15; exact After.call _ (text_raw _ _ _ _ _ _ _ htx))))
                refine wpQuiet_nil ?_
                rintro _ ⟨p8, rfl⟩
                go_wp2_with fail
                refine (HCB.out _ (HL.out.keep p8.upd)).mono ?_
                rintro e w9 ⟨rfl, hl⟩
                have HL9 := Lib.hid hl
                clear hl r0 r1 r2 r3 r4 r5 d0 d1 d2 d3 d4 d5
                obtain ⟨d0, d1, d2, d3, d4, d5⟩ := HX'.out w9 HL9.out.upd
                simp only at d0 d1 d2 d3 d4 d5
                go_wp2_with fail
                have r0 := fun p : After w9 => p.cell d0
                have r1 := fun p : After w9 => p.cell d1
                have r2 := fun p : After w9 => p.cell d2
                have r3 := fun p : After w9 => p.cell d3
                have r4 := fun p : After w9 => p.cell d4
                have r5 := fun p : After w9 => p.cell d5
                refine region_after 11 (by kernel_rfl) (by kernel_rfl) ?_
                simp only [List.take_succ_cons, List.take_zero, List.drop_succ_cons, List.drop_zero]
                repeat (go_big_quiet_step ((go_at_call 15; exact After.call _ (text_raw _ _ _ _ _ _ _ htx))))
                refine wpQuiet_nil ?_
                rintro _ ⟨p10, rfl⟩
                go_wp2_with fail
                refine (HCA.out _ (HL9.out.keep p10.upd)).mono ?_
                rintro e w11 ⟨rfl, hl⟩
                have HL11 := Lib.hid hl
                clear hl r0 r1 r2 r3 r4 r5 d0 d1 d2 d3 d4 d5
                go_wp2
                go_roundw
                case rel => exact ⟨k' + 1, s.push (j, (txtOf y.odd y.text)), lf - 1, by omega, by go_num, rfl, HL11.out, HI.out, by simp [DS.push]; omega, HLO2.out⟩
                case measure => simp [intOf]; omega
            · have HX' := HX
              have HCB : Hid (∀ w', Live2 w w' Ba (armS s af lf nw nb) Bb s → Calls Try.prog 14 #[.pointer (some ⟨Bb, 0, none⟩), .int .i64 y.sector, .string (txtOf y.odd y.text)] w' fun e w'' => e = .returned (.int .i64 1) ∧ Live2 w w'' Ba (armS s af lf nw nb) Bb s) := by
                intro w' hl
                have c := live2_write hl.swap (by omega) y.sector (txtOf y.odd y.text) (Nat.le_trans hsz (by decide))
                rw [write_bad s HI.out.1 y.sector (txtOf y.odd y.text) (by rw [HI.out.2.2]; exact hv)] at c
                exact c.mono fun e w'' hh => ⟨hh.1, hh.2.swap⟩
              have HCA : Hid (∀ w', Live2 w w' Ba (armS s af lf nw nb) Bb s → Calls Try.prog 14 #[.pointer (some ⟨Ba, 0, none⟩), .int .i64 y.sector, .string (txtOf y.odd y.text)] w' fun e w'' => e = .returned (.int .i64 1) ∧ Live2 w w'' Ba (armS s af lf nw nb) Bb s) := by
                intro w' hl
                have c := live2_write hl (by show s.q.length < 1000000; omega) y.sector (txtOf y.odd y.text) (Nat.le_trans hsz (by decide))
                rwa [armS_bad s HI.out.1 af lf nw nb y.sector (txtOf y.odd y.text) (by rw [HI.out.2.2]; exact hv)] at c
              clear hv
              obtain ⟨d0, d1, d2, d3, d4, d5⟩ := HX'.out wr HL.out.upd
              go_wp2_with fail
              have r0 := fun p : After wr => p.cell d0
              have r1 := fun p : After wr => p.cell d1
              have r2 := fun p : After wr => p.cell d2
              have r3 := fun p : After wr => p.cell d3
              have r4 := fun p : After wr => p.cell d4
              have r5 := fun p : After wr => p.cell d5
              refine region_after 11 (by kernel_rfl) (by kernel_rfl) ?_
              simp only [List.take_succ_cons, List.take_zero, List.drop_succ_cons, List.drop_zero]
              repeat (go_big_quiet_step ((go_at_call 15; exact After.call _ (text_raw _ _ _ _ _ _ _ htx))))
              refine wpQuiet_nil ?_
              rintro _ ⟨p8, rfl⟩
              go_wp2_with fail
              refine (HCB.out _ (HL.out.keep p8.upd)).mono ?_
              rintro e w9 ⟨rfl, hl⟩
              have HL9 := Lib.hid hl
              clear hl r0 r1 r2 r3 r4 r5 d0 d1 d2 d3 d4 d5
              obtain ⟨d0, d1, d2, d3, d4, d5⟩ := HX'.out w9 HL9.out.upd
              go_wp2_with fail
              have r0 := fun p : After w9 => p.cell d0
              have r1 := fun p : After w9 => p.cell d1
              have r2 := fun p : After w9 => p.cell d2
              have r3 := fun p : After w9 => p.cell d3
              have r4 := fun p : After w9 => p.cell d4
              have r5 := fun p : After w9 => p.cell d5
              refine region_after 11 (by kernel_rfl) (by kernel_rfl) ?_
              simp only [List.take_succ_cons, List.take_zero, List.drop_succ_cons, List.drop_zero]
              repeat (go_big_quiet_step ((go_at_call 15; exact After.call _ (text_raw _ _ _ _ _ _ _ htx))))
              refine wpQuiet_nil ?_
              rintro _ ⟨p10, rfl⟩
              go_wp2_with fail
              refine (HCA.out _ (HL9.out.keep p10.upd)).mono ?_
              rintro e w11 ⟨rfl, hl⟩
              have HL11 := Lib.hid hl
              clear hl r0 r1 r2 r3 r4 r5 d0 d1 d2 d3 d4 d5
              go_wp2
              go_roundw
              case rel => exact ⟨k' + 1, s, lf, by omega, by go_num, rfl, HL11.out, HI, by omega, HLO.out⟩
              case measure => simp [intOf]; omega
        · have hae : Hid (∀ lf', lf' = lf → af < 0 → lf' = af) := fun lf' e h => by rw [e]; exact HLO.out.neg h
          have hoff : Hid (s.off = false) := HI.out.1
          have HLE : Hid (Live2 w wr Ba (armS s af lf nw nb) Bb s) := HL.out
          have HS2 : Hid ((armS s af lf nw nb).start = s.start) := rfl
          have hnn : s.n = n := HI.out.2.2
          by_cases hafn : af < 0
          · obtain rfl : lf = af := hae.out lf rfl hafn
            go_wp2_with fail
            refine (live2_start HLE.out).mono ?_
            rintro e w20 ⟨rfl, hl⟩
            have HL20 := Lib.hid hl.swap
            clear hl
            go_wp2_with fail
            refine (live2_start HL20.out).mono ?_
            rintro e w21 ⟨rfl, hl⟩
            have HL21 := Lib.hid hl.swap
            clear hl HL20
            have c := live_contents' HL21.out.left (by show s.q.length ≤ 1000000; omega) rfl
            have hn21 : (armS s lf lf nw nb).start.n = n := by exact hnn
            rw [hn21] at c
            go_wp2_with fail
            refine c.mono ?_
            rintro e w22 ⟨g3, cp3, rfl, hg3, hg3', hs3, hu22⟩
            have HS3 := Lib.hid hs3
            have HL22 := Lib.hid (HL21.out.keep hu22).swap
            clear c hs3 hn21
            have c := live_contents' HL22.out.left (by show s.q.length ≤ 1000000; omega) rfl
            have hn22 : (s).start.n = n := by exact hnn
            rw [hn22] at c
            go_wp2_with fail
            refine c.mono ?_
            rintro e w23 ⟨g4, cp4, rfl, hg4, hg4', hs4, hu23⟩
            have HS4 := Lib.hid hs4
            have HU23 : Hid (Upd [] w w23) := HL22.out.upd.trans hu23
            have HC : Hid (Calls Try.prog 18 #[.slice (some ⟨g3, 0, none⟩) n cp3, .slice (some ⟨g4, 0, none⟩) n cp4] w23 fun e w' => e = .returned (.bool true) ∧ Upd [] w23 w') := by
              have hA : StrsAt w23 w21.heap.size (.slice (some ⟨g3, 0, none⟩) n cp3) (armS s lf lf nw nb).start.all := ownsRow_upd HS3.out fun k hk => hu23.block k (HS3.out.lt k hk).2 (by simp)
              have hB : StrsAt w23 w21.heap.size (.slice (some ⟨g4, 0, none⟩) n cp4) (s).start.all := by
                obtain ⟨q1, q2⟩ := HS4.out
                refine ⟨q1, ?_⟩
                rcases q2 with q2 | ⟨x1, x2, x3, x4, x5, x6⟩
                · exact .inl q2
                · exact .inr ⟨x1, x2, x3, x4, Nat.le_trans hu22.size x5, x6⟩
              have c := same_any w21.heap.size _ _ _ _ w23 hA hB (by rw [all_len]; show (armS s lf lf nw nb).start.n ≤ 4000; rw [show (armS s lf lf nw nb).start.n = n from hnn]; omega)
              rwa [decide_eq_true (show (armS s lf lf nw nb).start.all = (s).start.all from rfl)] at c
            clear c hs4 hn22 hu23 hu22
            go_wp2_with fail
            refine HC.out.mono ?_
            rintro e w24 ⟨rfl, hu24⟩
            have HU24 := Lib.hid (HU23.out.trans hu24)
            clear hu24
            go_wp2
            go_ret
            exact ⟨rfl, HU24.out⟩
          · go_wp2_with fail
            refine (live2_start HLE.out).mono ?_
            rintro e w20 ⟨rfl, hl⟩
            have HL20 := Lib.hid hl.swap
            clear hl
            go_wp2_with fail
            refine (live2_start HL20.out).mono ?_
            rintro e w21 ⟨rfl, hl⟩
            have HL21 := Lib.hid hl.swap
            clear hl HL20
            have c := live_contents' HL21.out.left (by show s.q.length ≤ 1000000; omega) rfl
            have hn21 : (armS s af lf nw nb).start.n = n := by exact hnn
            rw [hn21] at c
            go_wp2_with fail
            refine c.mono ?_
            rintro e w22 ⟨g3, cp3, rfl, hg3, hg3', hs3, hu22⟩
            have HS3 := Lib.hid hs3
            have HL22 := Lib.hid (HL21.out.keep hu22).swap
            clear c hs3 hn21
            have c := live_contents' HL22.out.left (by show s.q.length ≤ 1000000; omega) rfl
            have hn22 : (s).start.n = n := by exact hnn
            rw [hn22] at c
            go_wp2_with fail
            refine c.mono ?_
            rintro e w23 ⟨g4, cp4, rfl, hg4, hg4', hs4, hu23⟩
            have HS4 := Lib.hid hs4
            have HU23 : Hid (Upd [] w w23) := HL22.out.upd.trans hu23
            have HC : Hid (Calls Try.prog 18 #[.slice (some ⟨g3, 0, none⟩) n cp3, .slice (some ⟨g4, 0, none⟩) n cp4] w23 fun e w' => e = .returned (.bool true) ∧ Upd [] w23 w') := by
              have hA : StrsAt w23 w21.heap.size (.slice (some ⟨g3, 0, none⟩) n cp3) (armS s af lf nw nb).start.all := ownsRow_upd HS3.out fun k hk => hu23.block k (HS3.out.lt k hk).2 (by simp)
              have hB : StrsAt w23 w21.heap.size (.slice (some ⟨g4, 0, none⟩) n cp4) (s).start.all := by
                obtain ⟨q1, q2⟩ := HS4.out
                refine ⟨q1, ?_⟩
                rcases q2 with q2 | ⟨x1, x2, x3, x4, x5, x6⟩
                · exact .inl q2
                · exact .inr ⟨x1, x2, x3, x4, Nat.le_trans hu22.size x5, x6⟩
              have c := same_any w21.heap.size _ _ _ _ w23 hA hB (by rw [all_len]; show (armS s af lf nw nb).start.n ≤ 4000; rw [show (armS s af lf nw nb).start.n = n from hnn]; omega)
              rwa [decide_eq_true (show (armS s af lf nw nb).start.all = (s).start.all from rfl)] at c
            clear c hs4 hn22 hu23 hu22
            go_wp2_with fail
            refine HC.out.mono ?_
            rintro e w24 ⟨rfl, hu24⟩
            have HU24 := Lib.hid (HU23.out.trans hu24)
            clear hu24
            go_wp2
            go_ret
            exact ⟨rfl, HU24.out⟩

end Go.Proofs.Ytcihncgajkogkaa
