/- NetworkHouses, walked. -/
import Derived.Test.YtlmfgdibodpniaaHousesP
namespace Go.Proofs.Ytlmfgdibodpniaa
open Go.RowKit

theorem filter_take_yes {l : List OpR} {p : OpR → Bool} {q : Nat} (h : q < l.length) (hp : p l[q] = true) : (l.take (q + 1)).filter p = (l.take q).filter p ++ [l[q]] := by
  rw [List.take_succ_eq_append_getElem h, List.filter_append, List.filter_cons_of_pos hp, List.filter_nil]
theorem filter_take_no {l : List OpR} {p : OpR → Bool} {q : Nat} (h : q < l.length) (hp : p l[q] = false) : (l.take (q + 1)).filter p = (l.take q).filter p := by
  rw [List.take_succ_eq_append_getElem h, List.filter_append, List.filter_cons_of_neg (by rw [hp]; decide), List.filter_nil, List.append_nil]
theorem opsAt_nil (w : World) (b : Nat) : OpsAt w b (.slice none 0 0) [] := World.ownsRow_nil _ _ _ _

set_option maxRecDepth 100000 in
set_option maxHeartbeats 8000000 in
theorem houses_walk (w : World) (n : Int) (fa : Option Addr) (fc : Nat) (fs : List Fa) (oa : Option Addr) (oc : Nat) (l : List OpR) (A : Args w fa fc fs oa l) (x : Int) (x0 : 0 ≤ x) (x1 : x ≤ 255) :
    Calls Try.prog 8 #[.int .i64 n, .slice fa fs.length fc, .slice oa l.length oc, .int .u8 x] w fun e w' => e = .returned (.bool true) ∧ Upd [] w w' := by
  have HA := Lib.hid A
  by_cases hsm : smallB fs l = true
  case neg =>
    have hsm : smallB fs l = false := by simpa using hsm
    have HS : Hid (∀ W, Upd [] w W → Calls Try.prog 23 #[.slice fa fs.length fc, .slice oa l.length oc] W fun e w' => e = .returned (.bool false) ∧ W = w') := fun W hW => by have := pre_small HA.out hW (oc := oc); rwa [hsm] at this
    clear A hsm
    go_enter Try.func8, Try.ntmps8
    go_wp2_with (first | (go_at_call 10; refine (head_any _).mono ?_; rintro e w1 ⟨rfl, hu1⟩; have HU1 := Lib.hid hu1; clear hu1) | (go_at_call 23; refine (HS.out _ HU1.out).mono ?_; rintro e w2 ⟨rfl, rfl⟩))
    go_ret
    exact ⟨rfl, HU1.out⟩
  obtain ⟨hf60, hl200⟩ := smallB_parts hsm
  have HS : Hid (∀ W, Upd [] w W → Calls Try.prog 23 #[.slice fa fs.length fc, .slice oa l.length oc] W fun e w' => e = .returned (.bool true) ∧ W = w') := fun W hW => by have := pre_small HA.out hW (oc := oc); rwa [hsm] at this
  by_cases hgd : goodB n fs = true
  case neg =>
    have hgd : goodB n fs = false := by simpa using hgd
    have HG : Hid (∀ W, Upd [] w W → Calls Try.prog 24 #[.int .i64 n, .slice fa fs.length fc] W fun e w' => e = .returned (.bool false) ∧ Upd [] W w') := fun W hW => by have := pre_good HA.out hW n (by omega); rwa [hgd] at this
    clear A hsm hgd
    go_enter Try.func8, Try.ntmps8
    go_wp2_with (first | (go_at_call 10; refine (head_any _).mono ?_; rintro e w1 ⟨rfl, hu1⟩; have HU1 := Lib.hid hu1; clear hu1) | (go_at_call 23; refine (HS.out _ HU1.out).mono ?_; rintro e w2 ⟨rfl, rfl⟩) | (go_at_call 24; refine (HG.out _ HU1.out).mono ?_; rintro e w3 ⟨rfl, hu3⟩; have HU3 : Hid (Upd [] w w3) := HU1.out.trans hu3; clear hu3))
    go_ret
    exact ⟨rfl, HU3.out⟩
  obtain ⟨hn1, hn12, hr⟩ := goodB_parts hgd
  obtain ⟨m, rfl⟩ := Int.eq_ofNat_of_zero_le (show 0 ≤ n by omega)
  have HG : Hid (∀ W, Upd [] w W → Calls Try.prog 24 #[.int .i64 m, .slice fa fs.length fc] W fun e w' => e = .returned (.bool true) ∧ Upd [] W w') := fun W hW => by have := pre_good HA.out hW m (by omega); rwa [hgd] at this
  have HN : Hid (∀ W, Upd [] w W → Calls Try.prog 12 #[.int .i64 m, .slice fa fs.length fc] W (NewPost m fs W)) := fun W hW => new_ok m (by omega) (by omega) fa fc fs (HA.out.f.upd hW) HA.out.c (by omega) hr
  obtain ⟨xn, rfl⟩ := Int.eq_ofNat_of_zero_le x0
  obtain ⟨h, hh⟩ : ∃ h, h = xn % m := ⟨_, rfl⟩
  have hrem : (xn : Int).tmod (m : Int) = (h : Int) := by rw [hh]; exact (Int.ofNat_tmod xn m).symm
  have hhm : h < m := by rw [hh]; exact Nat.mod_lt _ (by omega)
  have hm0 : (m : Int) ≠ 0 := by omega
  obtain ⟨st, hst⟩ : ∃ st, st = PS.run fs (start m fs) l := ⟨_, rfl⟩
  obtain ⟨st2, hst2⟩ : ∃ st2, st2 = PS.run fs (start m fs) (l.filter (keepB h)) := ⟨_, rfl⟩
  have hL2 : (l.filter (keepB h)).length ≤ 200 := Nat.le_trans (List.length_filter_le _ _) hl200
  have HPL : Hid (∀ (wb W : World) (f : NFoot), Upd [] w wb → Upd [] wb W → NetAt W wb.heap.size f (NS.new m fs) → Calls Try.prog 25 #[.pointer (some ⟨f.B, 0, none⟩), .int .i64 m, .slice fa fs.length fc, .slice oa l.length oc] W (PlayPost wb.heap.size f st m W)) := by
    intro wb W f hb hW hN
    rw [hst]
    exact play_start HA.out (hb.trans hW) hN hW.size (fun j hj => Nat.le_trans hb.size (hN.ge j hj)) (by omega) (by omega) hr (by omega) hr (by omega) (by omega)
  have HPL2 : Hid (∀ (wb wn W : World) (f : NFoot) (sa : Option Addr) (sc : Nat) (L : List OpR), L = l.filter (keepB h) → ArgOps wb sa L → Upd [] w wb → Upd [] wb wn → Upd [] wn W → NetAt W wn.heap.size f (NS.new m fs) → Calls Try.prog 25 #[.pointer (some ⟨f.B, 0, none⟩), .int .i64 m, .slice fa fs.length fc, .slice sa L.length sc] W (PlayPost wn.heap.size f st2 m W)) := by
    intro wb wn W f sa sc L hL hO hb hn hW hN
    rw [hst2, ← hL]
    rw [← hL] at hL2
    exact play_start (w := wb) ⟨HA.out.f.upd hb, HA.out.c, hO⟩ (hn.trans hW) hN hW.size (fun j hj => Nat.le_trans hn.size (hN.ge j hj)) (by omega) (by omega) hr (by omega) hr (by omega) (by omega)
  have HI : Hid (Inv fs m st) := by rw [hst]; exact run_inv l (start_inv (by omega) (by omega) hr)
  have HI2 : Hid (Inv fs m st2) := by rw [hst2]; exact run_inv _ (start_inv (by omega) (by omega) hr)
  have HOK : Hid (st.Ok m 200 1800 60 800000) := by rw [hst]; exact start_ok (by omega) (by omega) hr hf60 l hl200
  have HEQ : Hid (st2.bk.got.getD h [] = st.bk.got.getD h [] ∧ st2.bk.sent = st.bk.sent) := by rw [hst, hst2]; exact houses (by omega) (by omega) hr hhm l hl200
  have HL2 := Lib.hid hL2
  clear A hsm hgd hst hst2 hr hh x0 hL2
  go_enter Try.func8, Try.ntmps8
  go_upto_region 5 with (first | (go_at_call 10; refine (head_any _).mono ?_; rintro e w1 ⟨rfl, hu1⟩; have HU1 := Lib.hid hu1; clear hu1) | (go_at_call 23; refine (HS.out _ HU1.out).mono ?_; rintro e w2 ⟨rfl, rfl⟩) | (go_at_call 24; refine (HG.out _ HU1.out).mono ?_; rintro e w3 ⟨rfl, hu3⟩; have HU3 : Hid (Upd [] w w3) := HU1.out.trans hu3; clear hu3))
  clear hrem hm0
  go_wp2_with fail
  go_loopw [11, 12] (fun v i wr => ∃ q : Nat, q ≤ l.length ∧ i = .int .i64 q ∧ ∃ L a c, v = .slice a L.length c ∧ Hid (L = (l.take q).filter (keepB h)) ∧ Hid (OpsAt wr w3.heap.size (.slice a L.length c) L ∧ Upd [] w3 wr)) (fun _ i _ => l.length - (intOf i).toNat)
  case atStart => exact ⟨0, Nat.zero_le _, rfl, [], none, 0, rfl, rfl, opsAt_nil _ _, Upd.refl _ _⟩
  case round =>
    obtain ⟨q, hq, rfl, L, a, c, rfl, hL, hR⟩ := hrel
    by_cases hqm : q < l.length
    · have HO1 : Hid (OpsAt wr w3.heap.size (.slice a L.length c) L) := hR.out.1
      have HU5 : Hid (Upd [] w3 wr) := hR.out.2
      have HBS : Hid (w3.heap.size ≤ wr.heap.size) := HU5.out.size
      have hLl : L.length ≤ 200 := by rw [hL.out]; exact Nat.le_trans (List.length_filter_le _ _) (Nat.le_trans (List.length_take_le _ _) (by omega))
      obtain ⟨b, ob, rfl, hat⟩ : ∃ b ob, oa = some ⟨b, ob, none⟩ ∧ OpAt wr b (ob + q * 5) l[q] := (HA.out.o.upd (HU3.out.trans HU5.out)).get hqm
      obtain ⟨o, ho⟩ : ∃ o, o = l[q] := ⟨_, rfl⟩
      have hYES : keepB h o = true → (l.take (q + 1)).filter (keepB h) = L ++ [o] := fun hk => by rw [hL.out, ho]; exact filter_take_yes hqm (by rw [← ho]; exact hk)
      have hNO : keepB h o = false → (l.take (q + 1)).filter (keepB h) = L := fun hk => by rw [hL.out]; exact filter_take_no hqm (by rw [← ho]; exact hk)
      have HYES := Lib.hid hYES
      have HNO := Lib.hid hNO
      rw [← ho] at hat
      clear ho hYES hNO hR hL
      obtain ⟨g0, g1, g2, g3, g4⟩ := hat
      have HOA : Hid (∀ ob, OpsAt (wr.alloc ob) w3.heap.size (.slice a L.length c) L) := fun ob => HO1.out.alloc ob
      have HNW : Hid (∀ ob : Obj, ob = .cells #[.int .i64 o.kind, .int .i64 o.house, .int .i64 o.p.src, .int .i64 o.p.dst, .string o.p.body] 33 (0, 0) → ∀ j u, ([o].flatMap opVals)[j]? = some u → (wr.alloc ob).cell? ((⟨wr.heap.size, 0, none⟩ : Addr).add j) = some u) := by
        intro ob hob j u hj
        rw [Addr.add_lit, cell_of_row _ wr.heap.size (0 + j) _ 33 (0, 0) (by rw [hob]; exact heap_alloc_new wr _)]
        rw [Nat.zero_add]; simpa [opVals, pkVals] using hj
      have hll2 : L.length + [o].length ≤ 100000 := by simp; omega
      by_cases hk1 : o.kind = 1
      · by_cases hk2 : o.house = (h : Int)
        · have HK : Hid (keepB h o = true) := Lib.hid (by simp [keepB, hk2])
          have ht1 : (o.kind != 1) = false := by simp [hk1]
          have ht2 : (o.house == (h : Int)) = true := by simp [hk2]
          clear hk2
          clear hk1
          go_wp2_with (at_builtin; (refine wpList_append_ops rfl _ _ rfl w3.heap.size _ L rfl (HOA.out _) ⟨wr.heap.size, 0, none⟩ 1 [o] rfl (HNW.out _ rfl) Nat.zero_lt_one hll2 (by have := HBS.out; simp; omega) ?_); intro g2 cap2 w6 hp1 hg1)
          have HFN : Hid (OpsAt w6 w3.heap.size (.slice (some ⟨g2, 0, none⟩) (L ++ [o]).length cap2) (L ++ [o]) ∧ Upd [] w3 w6) := by
            refine ⟨?_, (HU5.out.alloc _).grown hg1.out (fun k hk => .inr (OpsAt.ge HO1.out k hk))⟩
            rw [List.length_append]
            exact hp1.out
          exact ⟨⟨q + 1, by omega, by go_num, L ++ [o], some ⟨g2, 0, none⟩, cap2, by rw [List.length_append]; rfl, Lib.hid (HYES.out HK.out).symm, HFN.out⟩, by simp [intOf]; omega⟩
        · have HK : Hid (keepB h o = false) := Lib.hid (by simp [keepB, hk1, hk2])
          have ht1 : (o.kind != 1) = false := by simp [hk1]
          have ht2 : (o.house == (h : Int)) = false := by simp [hk2]
          clear hk1 hk2
          go_wp2_with fail
          exact ⟨⟨q + 1, by omega, by go_num, L, a, c, rfl, Lib.hid (HNO.out HK.out).symm, HO1.out, HU5.out⟩, by simp [intOf]; omega⟩
      · have HK : Hid (keepB h o = true) := Lib.hid (by simp [keepB, hk1])
        have ht1 : (o.kind != 1) = true := by simpa using hk1
        clear hk1
        go_wp2_with (at_builtin; (refine wpList_append_ops rfl _ _ rfl w3.heap.size _ L rfl (HOA.out _) ⟨wr.heap.size, 0, none⟩ 1 [o] rfl (HNW.out _ rfl) Nat.zero_lt_one hll2 (by have := HBS.out; simp; omega) ?_); intro g2 cap2 w6 hp1 hg1)
        have HFN : Hid (OpsAt w6 w3.heap.size (.slice (some ⟨g2, 0, none⟩) (L ++ [o]).length cap2) (L ++ [o]) ∧ Upd [] w3 w6) := by
          refine ⟨?_, (HU5.out.alloc _).grown hg1.out (fun k hk => .inr (OpsAt.ge HO1.out k hk))⟩
          rw [List.length_append]
          exact hp1.out
        exact ⟨⟨q + 1, by omega, by go_num, L ++ [o], some ⟨g2, 0, none⟩, cap2, by rw [List.length_append]; rfl, Lib.hid (HYES.out HK.out).symm, HFN.out⟩, by simp [intOf]; omega⟩
    · have hqe : q = l.length := by omega
      have hLe : L = l.filter (keepB h) := by rw [hL.out, hqe, List.take_length]
      have hLl : L.length ≤ 200 := by rw [hLe]; exact HL2.out
      have HLE := Lib.hid hLe
      have HWR : Hid (Upd [] w wr) := HU3.out.trans hR.out.2
      have HAO : Hid (ArgOps wr a L) := (hR.out.1.args (by unfold maxLen; omega) (fun x hx => by
        rw [hLe] at hx
        exact HA.out.o.tx x (List.mem_filter.1 hx).1)).1
      have hhn : h < m := hhm
      clear hR hL hLe hqm hq
      subst hqe
      go_upto_region 12 with (first | (go_at_call 12; refine (HN.out _ HWR.out).mono ?_; rintro e w4 ⟨f, rfl, hn4, hu4⟩; have HN4 := Lib.hid hn4; have HU34 := Lib.hid hu4; clear hn4 hu4) | (go_at_call 25; refine (HPL.out _ _ _ HWR.out HU34.out HN4.out).mono ?_; rintro e w5 ⟨sv, G, f', rfl, hb5, hn5, ht5⟩; have HB5 := Lib.hid hb5; have HU5 : Hid (Upd [] wr w5) := Lib.hid (play_upd (Upd.refl _ _) HU34.out HN4.out ht5); obtain ⟨sa, sc, hsv, -⟩ := hb5.sent.read; obtain ⟨ln, hln⟩ : ∃ ln, ln = st.bk.sent.length := ⟨_, rfl⟩; rw [← hln] at hsv; have HLN := Lib.hid hln; clear hb5 hn5 ht5 hln; subst hsv))
      generalize hW6 : w5.alloc (Obj.cells #[Value.slice sa ln sc, Value.slice (some { block := G, off := 0 }) m m] 46) = W6
      have HU6 : Hid (Upd [] w5 W6) := by rw [← hW6]; exact (Upd.refl _ _).alloc _
      have C0 : Hid (W6.cell? ⟨w5.heap.size, 0, none⟩ = some (.slice sa ln sc)) := Lib.hid (by rw [← hW6]; simp)
      have C1 : Hid (W6.cell? ⟨w5.heap.size, 1, none⟩ = some (.slice (some ⟨G, 0, none⟩) m m)) := Lib.hid (by rw [← hW6]; simp)
      have HB6 : Hid (BookR W6 w4.heap.size w5.heap.size (.slice sa ln sc) G st.bk) := HB5.out.upd HU6.out (by simp) (Nat.le_refl _)
      have HR6 : Hid (Upd [] wr W6) := HU5.out.trans HU6.out
      have HW6 : Hid (Upd [] w W6) := HWR.out.trans HR6.out
      have hz6 : w5.heap.size ≤ W6.heap.size := HU6.out.size
      have HZ6 := Lib.hid hz6
      clear hW6 hz6
      go_upto_region 13 with (first | (go_at_call 12; refine (HN.out _ HW6.out).mono ?_; rintro e w7 ⟨f2, rfl, hn7, hu7⟩; have HN7 := Lib.hid hn7; have HU7 := Lib.hid hu7; clear hn7 hu7) | (go_at_call 25; refine (HPL2.out wr _ _ _ _ _ _ HLE.out HAO.out HWR.out HR6.out HU7.out HN7.out).mono ?_; rintro e w8 ⟨sv2, G2, f3, rfl, hb8, hn8, ht8⟩; have HB8 := Lib.hid hb8; have HU8 : Hid (Upd [] W6 w8) := Lib.hid (play_upd (Upd.refl _ _) HU7.out HN7.out ht8); obtain ⟨sa2, sc2, hsv2, -⟩ := hb8.sent.read; obtain ⟨ln2, hln2⟩ : ∃ ln2, ln2 = st2.bk.sent.length := ⟨_, rfl⟩; rw [← hln2] at hsv2; have HLN2 := Lib.hid hln2; clear hb8 hn8 ht8 hln2; subst hsv2))
      generalize hW9 : w8.alloc (Obj.cells #[Value.slice sa2 ln2 sc2, Value.slice (some { block := G2, off := 0 }) m m] 46) = W9
      have hU9 : Upd [] w8 W9 := by rw [← hW9]; exact (Upd.refl _ _).alloc _
      have hU69 : Upd [] W6 W9 := HU8.out.trans hU9
      have d0 : W9.cell? ⟨w8.heap.size, 0, none⟩ = some (.slice sa2 ln2 sc2) := by rw [← hW9]; simp
      have d1 : W9.cell? ⟨w8.heap.size, 1, none⟩ = some (.slice (some ⟨G2, 0, none⟩) m m) := by rw [← hW9]; simp
      have c0 := hU69.cell C0.out (by simp)
      have c1 := hU69.cell C1.out (by simp)
      have HB9 : Hid (BookR W9 w7.heap.size w8.heap.size (.slice sa2 ln2 sc2) G2 st2.bk) := HB8.out.upd hU9 (by simp) (Nat.le_refl _)
      have HB69 : Hid (BookR W9 w4.heap.size w5.heap.size (.slice sa ln sc) G st.bk) := HB6.out.upd hU69 (by simp) HZ6.out
      have HW9 : Hid (Upd [] w W9) := HW6.out.trans hU69
      clear hW9 hU9 hU69
      have hjg : h < st.bk.got.length := by rw [HI.out.got]; exact hhn
      have hjg2 : h < st2.bk.got.length := by rw [HI2.out.got]; exact hhn
      obtain ⟨v, c2, hp, -⟩ := HB69.out.row h _ (List.getElem?_eq_getElem hjg)
      obtain ⟨v2, d2, hp2, -⟩ := HB9.out.row h _ (List.getElem?_eq_getElem hjg2)
      have he : st2.bk.got[h] = st.bk.got[h] := by
        have := HEQ.out.1
        rwa [List.getD_eq_getElem?_getD, List.getElem?_eq_getElem hjg2, List.getD_eq_getElem?_getD, List.getElem?_eq_getElem hjg] at this
      have hgl := HOK.out.gl _ (List.getElem_mem hjg)
      have HPR := Lib.hid hp.read
      have HPR2 := Lib.hid hp2.read
      obtain ⟨va, vc, hvv, -⟩ := hp.read
      obtain ⟨va2, vc2, hvv2, -⟩ := hp2.read
      obtain ⟨gn, hgn⟩ : ∃ gn, gn = (st.bk.got[h]).length := ⟨_, rfl⟩
      obtain ⟨gn2, hgn2⟩ : ∃ gn2, gn2 = (st2.bk.got[h]).length := ⟨_, rfl⟩
      rw [← hgn] at hvv
      rw [← hgn2] at hvv2
      subst hvv hvv2
      have HC1 : Hid (∀ W, Upd [] W9 W → Calls Try.prog 18 #[.slice va gn vc, .slice va2 gn2 vc2] W fun e w' => e = .returned (.bool true) ∧ Upd [] W w') := fun W hW => by
        have := packets_any (HPR.out.upd hW) (HPR2.out.upd hW) (by omega)
        rwa [he, decide_eq_true rfl] at this
      have HC2 : Hid (∀ W, Upd [] W9 W → Calls Try.prog 18 #[.slice sa ln sc, .slice sa2 ln2 sc2] W fun e w' => e = .returned (.bool true) ∧ Upd [] W w') := fun W hW => by
        have := packets_any (HB69.out.sent.read.upd hW) (HB9.out.sent.read.upd hW) (by have := HOK.out.sent; omega)
        rwa [HEQ.out.2, decide_eq_true rfl] at this
      have HFU : Hid (∀ p : After W9, Upd [] w p.w) := fun p => HW9.out.trans p.upd
      have r0 := fun p : After W9 => p.cell c0
      have r1 := fun p : After W9 => p.cell c1
      have r2 := fun p : After W9 => p.cell c2
      have q0 := fun p : After W9 => p.cell d0
      have q1 := fun p : After W9 => p.cell d1
      have q2 := fun p : After W9 => p.cell d2
      clear c0 c1 c2 d0 d1 d2 hp hp2 hgn hgn2 he hgl
      refine region_all (by kernel_rfl) (by kernel_rfl) ?_
      repeat (go_big_quiet_step (first | (go_at_call_of 18 (Value.slice va gn vc); exact After.call _ (HC1.out _ (After.upd _))) | (go_at_call_of 18 (Value.slice sa ln sc); exact After.call _ (HC2.out _ (After.upd _)))))
      refine wpQuiet_nil ?_
      rintro _ ⟨p, rfl⟩
      go_wp2
      go_ret
      exact ⟨rfl, HFU.out p⟩
end Go.Proofs.Ytlmfgdibodpniaa
