/- prefix, walked. -/
import Derived.Test.YtcihncgajkogkaaPlain2
import Derived.Test.YtcihncgajkogkaaStable
namespace Go.Proofs.Ytcihncgajkogkaa
open Go.RowKit

/-- The writes among the first k that succeed. -/
def goodA (n : Nat) (L : List ActR) (k : Nat) : List ActR := (L.take k).filter (validA n)

theorem goodA_step (n : Nat) (L : List ActR) (k : Nat) (hk : k < L.length) : goodA n L (k + 1) = goodA n L k ++ (if validA n L[k] = true then [L[k]] else []) := filter_take _ _ _ hk
theorem goodA_len (n : Nat) (L : List ActR) (k : Nat) : (goodA n L k).length ≤ k := by
  unfold goodA
  exact Nat.le_trans (List.length_filter_le _ _) (List.length_take_le _ _)

theorem withV_wf_off (S : DS) (V : List ActR) : (S.synced.withV V).off = false := rfl

/-- What prefix comes to. -/
def preV (n : Nat) (L : List ActR) (m : Nat) : List ActR := (L.filter (validA n)).take m
theorem goodA_end (n : Nat) (L : List ActR) (k m : Nat) (hk : k ≤ L.length) (hm : (goodA n L k).length ≤ m) (h : ¬ (k < L.length ∧ (goodA n L k).length < m)) : goodA n L k = preV n L m := by
  unfold preV
  by_cases hl : k = L.length
  · have : goodA n L k = L.filter (validA n) := by unfold goodA; rw [hl, List.take_length]
    rw [← this, List.take_of_length_le hm]
  · have hm' : (goodA n L k).length = m := by omega
    obtain ⟨r, hr⟩ := filter_prefix (validA n) L k
    have := take_of_prefix (W := goodA n L k) hr
    rw [hm'] at this
    exact this.symm

set_option maxRecDepth 100000 in
set_option maxHeartbeats 4000000 in
theorem prefix_any (w : World) (n : Nat) (hn1 : 1 ≤ n) (hn2 : n ≤ 12) (a1 a2 : Option Addr) (c1 c2 : Nat) (L1 L2 : List ActR) (A1 : ArgActs w a1 L1) (A2 : ArgActs w a2 L2)
    (s1 : L1.length ≤ 60) (s2 : L2.length ≤ 60) (K1 : ∀ a ∈ L1, a.text.size ≤ 100) (K2 : ∀ a ∈ L2, a.text.size ≤ 100) (m : Nat) :
    Calls Try.prog 17 #[.int .i64 n, .slice a1 L1.length c1, .slice a2 L2.length c2, .int .i64 m] w fun e w' => ∃ g cap, e = .returned (.tuple #[.slice (some ⟨g, 0, none⟩) n cap, .bool true]) ∧ w.heap.size ≤ g ∧ g < w'.heap.size ∧
      StrsAt w' w.heap.size (.slice (some ⟨g, 0, none⟩) n cap) (((DS.new n).acts L1).synced.withV (preV n L2 m)).all ∧ Upd [] w w' ∧ (((DS.new n).acts L1).synced.withV (preV n L2 m)).Wf := by
  have KK1 := Lib.hid K1
  have KK2 := Lib.hid K2
  clear K1 K2
  go_enter Try.func17, Try.ntmps17
  go_wp2_with fail
  refine (live_new w w (Upd.refl _ _) n hn1 (by omega)).mono ?_
  rintro e w2 ⟨B, rfl, hl⟩
  have HL2 := Lib.hid hl
  clear hl
  go_wp2
  go_loopw [11] (fun i wr => ∃ k : Nat, k ≤ L1.length ∧ i = .int .i64 k ∧ Live w wr B ((DS.new n).acts (L1.take k))) (fun i _ => L1.length - (intOf i).toNat)
  case atStart => exact ⟨0, Nat.zero_le _, rfl, HL2.out⟩
  case round =>
    obtain ⟨k, hk, rfl, hl⟩ := hrel
    have HL := Lib.hid hl
    clear hl
    by_cases hlt : k < L1.length
    · obtain ⟨b, o, ha, hx⟩ := A1.lies (by omega)
      subst ha
      have hat := ((hx.upd HL.out.upd (by simp)).at_ k hlt)
      have hwf := hx.wf k hlt
      have htx := KK1.out _ (List.getElem_mem hlt)
      have hstep := acts_take (DS.new n) L1 k hlt
      obtain ⟨y, hy⟩ : ∃ y, y = L1[k] := ⟨_, rfl⟩
      rw [← hy] at hat hwf htx hstep
      have HST := Lib.hid hstep
      have hq : ((DS.new n).acts (L1.take k)).q.length < 1000000 := by
        have := acts_q (DS.new n) (L1.take k)
        rw [List.length_take] at this
        simp only [DS.new, List.length_nil] at this ⊢
        omega
      have HC := Lib.hid (live_do HL.out hq y htx hwf.2)
      obtain ⟨d0, d1, d2, d3, d4, d5⟩ := hat
      clear hx hstep hy hwf htx hq
      go_wp2_with fail
      refine HC.out.mono ?_
      rintro e w3 ⟨⟨t, m', rfl⟩, hl⟩
      rw [← HST.out] at hl
      have HL3 := Lib.hid hl
      clear hl
      go_wp2
      go_roundw
      case rel => exact ⟨k + 1, by omega, by go_num, HL3.out⟩
      case measure => simp [intOf]; omega
    · have e : k = L1.length := by omega
      have HL3 : Hid (Live w wr B ((DS.new n).acts L1)) := by
        have h2 := HL.out
        rw [e, List.take_length] at h2
        exact h2
      clear HL e HL2
      obtain ⟨S, hS⟩ : ∃ S, S = (DS.new n).acts L1 := ⟨_, rfl⟩
      have hSn : S.n = n := by rw [hS, acts_n]; rfl
      have hSq : S.q.length ≤ 60 := by
        have := acts_q (DS.new n) L1
        rw [hS]
        simp only [DS.new, List.length_nil] at this ⊢
        omega
      rw [← hS] at HL3
      have HS0 := Lib.hid hS
      clear hS
      go_wp2_with fail
      refine (live_start HL3.out).mono ?_
      rintro e w4 ⟨rfl, hl⟩
      have HL4 := Lib.hid hl
      clear hl HL3
      go_wp2_with fail
      have c := live_sync HL4.out (by simp only [DS.start]; omega)
      rw [start_sync] at c
      refine c.mono ?_
      rintro e w5 ⟨rfl, hl⟩
      have HL5 : Hid (Live w w5 B S.synced) := hl
      clear hl HL4 c
      have HST : Hid (S.synced.n = n) := hSn
      have H0 : Hid (Live w w5 B (S.synced.withV [])) := HL5.out
      clear HL5
      go_wp2
      go_loopw [13, 12] (fun i d wr => ∃ k : Nat, k ≤ L2.length ∧ i = .int .i64 k ∧ d = .int .i64 (goodA n L2 k).length ∧ (goodA n L2 k).length ≤ m ∧ Live w wr B (S.synced.withV (goodA n L2 k))) (fun i _ _ => L2.length - (intOf i).toNat)
      case atStart => exact ⟨0, Nat.zero_le _, rfl, rfl, Nat.zero_le _, H0.out⟩
      case round =>
        obtain ⟨k', hk', rfl, rfl, hdm, hl⟩ := hrel
        have HL := Lib.hid hl
        clear hl H0
        have hgl := goodA_len n L2 k'
        by_cases hgo : k' < L2.length ∧ (goodA n L2 k').length < m
        · obtain ⟨hlt2, hdl⟩ := hgo
          obtain ⟨b, o, ha, hx⟩ := A2.lies (by omega)
          subst ha
          have HX : Hid (∀ w', Upd [] w w' → ActAt w' b (o + k' * 6) L2[k']) := fun w' hu => (hx.upd hu (by simp)).at_ k' hlt2
          have htx := KK2.out _ (List.getElem_mem hlt2)
          have HG := Lib.hid (goodA_step n L2 k' hlt2)
          obtain ⟨y, hy⟩ : ∃ y, y = L2[k'] := ⟨_, rfl⟩
          rw [← hy] at HX htx HG
          have hsz : y.txt.size ≤ 100 := size_txt y htx
          clear hx hy
          obtain ⟨V, hV⟩ : ∃ V, V = goodA n L2 k' := ⟨_, rfl⟩
          have HV := Lib.hid hV
          rw [← hV] at HG HL hdm hgl hdl ⊢
          clear hV
          obtain ⟨d0, d1, d2, d3, d4, d5⟩ := HX.out wr HL.out.upd
          have hqq : (S.synced.withV V).q.length < 1000000 := by rw [withV_q]; omega
          by_cases hv : validA n y = true
          · have HC : Hid (∀ w', Live w w' B (S.synced.withV V) → Calls Try.prog 14 #[.pointer (some ⟨B, 0, none⟩), .int .i64 y.sector, .string (txtOf y.odd y.text)] w' fun e w'' => e = .returned (.int .i64 0) ∧ Live w w'' B (S.synced.withV (V ++ [y]))) := by
              intro w' hl
              have c := live_write hl hqq y.sector y.txt (Nat.le_trans hsz (by decide))
              rwa [withV_write S.synced rfl rfl V y (by rw [HST.out]; exact hv)] at c
            have HG2 : Hid (goodA n L2 (k' + 1) = V ++ [y]) := by unfold Hid; rw [HG.out, if_pos hv]
            clear hv HG
            go_wp2_with fail
            go_region_with (first | (go_at_call 15; refine (text_raw _ _ _ _ _ _ _ htx).mono ?_; rintro e w8 ⟨rfl, hu8⟩; have HU8 := Lib.hid (((Upd.refl [] wr).drew).trans hu8); have e1 := HU8.out.cell d1 (by simp); clear hu8) | (go_at_call 14; refine (HC.out _ (HL.out.keep HU8.out)).mono ?_; rintro e w9 ⟨rfl, hl9⟩; have HL9 := Lib.hid hl9; clear hl9))
            all_goals
              go_wp2
              go_roundw
              case rel => exact ⟨k' + 1, by omega, by go_num, by rw [HG2.out]; simp, by rw [HG2.out]; simp; omega, by rw [HG2.out]; exact HL9.out⟩
              case measure => simp [intOf]; omega
          · have HC : Hid (∀ w', Live w w' B (S.synced.withV V) → Calls Try.prog 14 #[.pointer (some ⟨B, 0, none⟩), .int .i64 y.sector, .string (txtOf y.odd y.text)] w' fun e w'' => e = .returned (.int .i64 1) ∧ Live w w'' B (S.synced.withV V)) := by
              intro w' hl
              have c := live_write hl hqq y.sector y.txt (Nat.le_trans hsz (by decide))
              rwa [withV_bad S.synced rfl V y (by rw [HST.out]; exact hv)] at c
            have HG2 : Hid (goodA n L2 (k' + 1) = V) := by unfold Hid; rw [HG.out, if_neg hv, List.append_nil]
            clear hv HG
            go_wp2_with fail
            go_region_with (first | (go_at_call 15; refine (text_raw _ _ _ _ _ _ _ htx).mono ?_; rintro e w8 ⟨rfl, hu8⟩; have HU8 := Lib.hid (((Upd.refl [] wr).drew).trans hu8); have e1 := HU8.out.cell d1 (by simp); clear hu8) | (go_at_call 14; refine (HC.out _ (HL.out.keep HU8.out)).mono ?_; rintro e w9 ⟨rfl, hl9⟩; have HL9 := Lib.hid hl9; clear hl9))
            all_goals
              go_wp2
              go_roundw
              case rel => exact ⟨k' + 1, by omega, by go_num, by rw [HG2.out], by rw [HG2.out]; omega, by rw [HG2.out]; exact HL9.out⟩
              case measure => simp [intOf]; omega
        · have HE := goodA_end n L2 k' m hk' hdm hgo
          have c := live_contents' HL.out (by rw [withV_q]; omega) rfl
          have hn' : (S.synced.withV (goodA n L2 k')).n = n := hSn
          rw [hn'] at c
          have HC : Hid (Calls Try.prog 13 #[.pointer (some ⟨B, 0, none⟩), .int .i64 n] wr fun e w' => ∃ g cap, e = .returned (.tuple #[.slice (some ⟨g, 0, none⟩) n cap, .bool true]) ∧ w.heap.size ≤ g ∧ g < w'.heap.size ∧
            StrsAt w' w.heap.size (.slice (some ⟨g, 0, none⟩) n cap) (((DS.new n).acts L1).synced.withV (preV n L2 m)).all ∧ Upd [] w w' ∧ (((DS.new n).acts L1).synced.withV (preV n L2 m)).Wf) := by
            refine c.mono fun e w' hh => ?_
            obtain ⟨g, cap, he, g1, g2, g3, g4⟩ := hh
            have hsz := HL.out.upd.size
            rw [← HS0.out, ← HE]
            refine ⟨g, cap, he, by omega, g2, ?_, HL.out.upd.trans g4, HL.out.wf⟩
            obtain ⟨q1, q2⟩ := g3
            refine ⟨q1, ?_⟩
            rcases q2 with q2 | ⟨x1, x2, x3, x4, x5, x6⟩
            · exact .inl q2
            · exact .inr ⟨x1, x2, x3, x4, by omega, x6⟩
          clear c hn' HE
          by_cases hlt2 : k' < L2.length
          · have hge : ¬ (goodA n L2 k').length < m := fun h => hgo ⟨hlt2, h⟩
            clear hgo
            obtain ⟨dn, hdn⟩ : ∃ dn, dn = (goodA n L2 k').length := ⟨_, rfl⟩
            rw [← hdn] at hge hdm ⊢
            clear hdn
            go_wp2_with fail
            refine HC.out.mono ?_
            rintro e w6 ⟨g, cap, rfl, hrest⟩
            have HR := Lib.hid hrest
            clear hrest
            go_wp2
            go_ret2
            exact ⟨g, cap, rfl, HR.out⟩
          · clear hgo
            obtain ⟨dn, hdn⟩ : ∃ dn, dn = (goodA n L2 k').length := ⟨_, rfl⟩
            rw [← hdn] at hdm ⊢
            clear hdn
            go_wp2_with fail
            refine HC.out.mono ?_
            rintro e w6 ⟨g, cap, rfl, hrest⟩
            have HR := Lib.hid hrest
            clear hrest
            go_wp2
            go_ret2
            exact ⟨g, cap, rfl, HR.out⟩

end Go.Proofs.Ytcihncgajkogkaa
