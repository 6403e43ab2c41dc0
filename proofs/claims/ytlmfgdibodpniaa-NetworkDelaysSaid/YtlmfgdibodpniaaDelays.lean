/- NetworkDelays, walked. -/
import Derived.Test.YtlmfgdibodpniaaDelaysP
namespace Go.Proofs.Ytlmfgdibodpniaa
open Go.RowKit

def boxRow (s d : Int) (b : ByteArray) : Obj := .cells #[.int .i64 s, .int .i64 d, .string b] 31 (0, 0)
theorem boxRow.cells {w : World} {B : Nat} {s d : Int} {b : ByteArray} (h : w.heap[B]? = some (boxRow s d b)) :
    w.cell? ⟨B, 0, none⟩ = some (.int .i64 s) ∧ w.cell? ⟨B, 1, none⟩ = some (.int .i64 d) ∧ w.cell? ⟨B, 2, none⟩ = some (.string b) ∧ ∀ i, w.frozen? ⟨B, i, none⟩ = false := by
  refine ⟨?_, ?_, ?_, fun i => ?_⟩
  · rw [cell_of_row w _ 0 _ 31 (0, 0) h]; rfl
  · rw [cell_of_row w _ 1 _ 31 (0, 0) h]; rfl
  · rw [cell_of_row w _ 2 _ 31 (0, 0) h]; rfl
  · simp [World.frozen?, h, boxRow]
theorem boxRow.set {w : World} {B : Nat} {s d : Int} {b : ByteArray} (h : w.heap[B]? = some (boxRow s d b)) :
    ((w.setCell ⟨B, 0, none⟩ (.int .i64 0)).setCell ⟨B, 1, none⟩ (.int .i64 1)).heap[B]? = some (boxRow 0 1 b) := by
  have h1 := heap_setCell_self (o := 0) (v := .int .i64 0) (show w.heap[B]? = some (.cells #[.int .i64 s, .int .i64 d, .string b] 31 (0, 0)) from h)
  have h2 := heap_setCell_self (o := 1) (v := .int .i64 1) h1
  simpa [boxRow] using h2

theorem argsNil {w : World} {oa : Option Addr} {l : List OpR} (O : ArgOps w oa l) : Args w none 0 [] oa l :=
  ⟨⟨Nat.zero_le _, fun _ => rfl, fun h => absurd rfl h⟩, fun _ => rfl, O⟩

set_option maxRecDepth 100000 in
set_option maxHeartbeats 8000000 in
theorem delays_walk (w : World) (n : Int) (oa : Option Addr) (oc : Nat) (l : List OpR) (O : ArgOps w oa l) (src dst : Int) (body : ByteArray) (hbm : body.size ≤ maxLen) (x : Int) (x0 : 0 ≤ x) (x1 : x ≤ 255) :
    Calls Try.prog 7 #[.int .i64 n, .slice oa l.length oc, .agg #[.int .i64 src, .int .i64 dst, .string body], .int .u8 x] w fun e w' => e = .returned (.bool true) ∧ Upd [] w w' := by
  have HA := Lib.hid (argsNil O)
  have HBM := Lib.hid hbm
  by_cases hsm : smallB [] l = true
  case neg =>
    have hsm : smallB [] l = false := by simpa using hsm
    have HS : Hid (∀ W, Upd [] w W → Calls Try.prog 23 #[.slice none 0 0, .slice oa l.length oc] W fun e w' => e = .returned (.bool false) ∧ W = w') := fun W hW => by have := pre_small HA.out hW (oc := oc); rwa [hsm] at this
    clear O hsm hbm
    go_enter Try.func7, Try.ntmps7
    go_upto_region 1 with fail
    generalize hW0 : w.alloc (Obj.cells #[.int .i64 src, .int .i64 dst, .string body] 31) = W0
    have HX0 : Hid (W0.heap[w.heap.size]? = some (boxRow src dst body)) := Lib.hid (by rw [← hW0]; exact heap_alloc_new _ _)
    have HLT : Hid (w.heap.size < W0.heap.size) := Lib.hid (by rw [← hW0]; simp)
    have HU0 : Hid (Upd [] w W0) := by rw [← hW0]; exact (Upd.refl _ _).alloc _
    have HE2 : Hid (∀ W, Upd [] W0 W → W.cell? ⟨w.heap.size, 2, none⟩ = some (.string body)) := fun W hW => hW.cell (boxRow.cells HX0.out).2.2.1 (by simp)
    clear hW0
    go_wp2_with (first | (go_at_call 10; refine (head_any _).mono ?_; rintro e w1 ⟨rfl, hu1⟩; have HU01 := Lib.hid hu1; have HU1 : Hid (Upd [] w w1) := HU0.out.trans hu1; clear hu1) | (go_at_call 23; refine (HS.out _ HU1.out).mono ?_; rintro e w2 ⟨rfl, rfl⟩))
    go_ret
    exact ⟨rfl, HU1.out⟩
  obtain ⟨-, hl200⟩ := smallB_parts hsm
  have HS : Hid (∀ W, Upd [] w W → Calls Try.prog 23 #[.slice none 0 0, .slice oa l.length oc] W fun e w' => e = .returned (.bool true) ∧ W = w') := fun W hW => by have := pre_small HA.out hW (oc := oc); rwa [hsm] at this
  by_cases hgd : goodB n [] = true
  case neg =>
    have hgd : goodB n [] = false := by simpa using hgd
    have HG : Hid (∀ W, Upd [] w W → Calls Try.prog 24 #[.int .i64 n, .slice none 0 0] W fun e w' => e = .returned (.bool false) ∧ Upd [] W w') := fun W hW => by have := pre_good HA.out hW n (Nat.zero_le _); rwa [hgd] at this
    clear O hsm hgd hbm
    go_enter Try.func7, Try.ntmps7
    go_upto_region 1 with fail
    generalize hW0 : w.alloc (Obj.cells #[.int .i64 src, .int .i64 dst, .string body] 31) = W0
    have HX0 : Hid (W0.heap[w.heap.size]? = some (boxRow src dst body)) := Lib.hid (by rw [← hW0]; exact heap_alloc_new _ _)
    have HLT : Hid (w.heap.size < W0.heap.size) := Lib.hid (by rw [← hW0]; simp)
    have HU0 : Hid (Upd [] w W0) := by rw [← hW0]; exact (Upd.refl _ _).alloc _
    have HE2 : Hid (∀ W, Upd [] W0 W → W.cell? ⟨w.heap.size, 2, none⟩ = some (.string body)) := fun W hW => hW.cell (boxRow.cells HX0.out).2.2.1 (by simp)
    clear hW0
    go_wp2_with (first | (go_at_call 10; refine (head_any _).mono ?_; rintro e w1 ⟨rfl, hu1⟩; have HU01 := Lib.hid hu1; have HU1 : Hid (Upd [] w w1) := HU0.out.trans hu1; clear hu1) | (go_at_call 23; refine (HS.out _ HU1.out).mono ?_; rintro e w2 ⟨rfl, rfl⟩) | (go_at_call 24; refine (HG.out _ HU1.out).mono ?_; rintro e w3 ⟨rfl, hu3⟩; have HU3 : Hid (Upd [] w w3) := HU1.out.trans hu3; have HU03 : Hid (Upd [] W0 w3) := HU01.out.trans hu3; have e2 := HE2.out _ HU03.out; clear hu3))
    go_ret
    exact ⟨rfl, HU3.out⟩
  obtain ⟨hn1, hn12, -⟩ := goodB_parts hgd
  obtain ⟨m, rfl⟩ := Int.eq_ofNat_of_zero_le (show 0 ≤ n by omega)
  have HG : Hid (∀ W, Upd [] w W → Calls Try.prog 24 #[.int .i64 m, .slice none 0 0] W fun e w' => e = .returned (.bool true) ∧ Upd [] W w') := fun W hW => by have := pre_good HA.out hW m (Nat.zero_le _); rwa [hgd] at this
  by_cases hm2 : (m : Int) < 2
  case pos =>
    clear O hsm hgd hbm
    go_enter Try.func7, Try.ntmps7
    go_upto_region 1 with fail
    generalize hW0 : w.alloc (Obj.cells #[.int .i64 src, .int .i64 dst, .string body] 31) = W0
    have HX0 : Hid (W0.heap[w.heap.size]? = some (boxRow src dst body)) := Lib.hid (by rw [← hW0]; exact heap_alloc_new _ _)
    have HLT : Hid (w.heap.size < W0.heap.size) := Lib.hid (by rw [← hW0]; simp)
    have HU0 : Hid (Upd [] w W0) := by rw [← hW0]; exact (Upd.refl _ _).alloc _
    have HE2 : Hid (∀ W, Upd [] W0 W → W.cell? ⟨w.heap.size, 2, none⟩ = some (.string body)) := fun W hW => hW.cell (boxRow.cells HX0.out).2.2.1 (by simp)
    clear hW0
    go_wp2_with (first | (go_at_call 10; refine (head_any _).mono ?_; rintro e w1 ⟨rfl, hu1⟩; have HU01 := Lib.hid hu1; have HU1 : Hid (Upd [] w w1) := HU0.out.trans hu1; clear hu1) | (go_at_call 23; refine (HS.out _ HU1.out).mono ?_; rintro e w2 ⟨rfl, rfl⟩) | (go_at_call 24; refine (HG.out _ HU1.out).mono ?_; rintro e w3 ⟨rfl, hu3⟩; have HU3 : Hid (Upd [] w w3) := HU1.out.trans hu3; have HU03 : Hid (Upd [] W0 w3) := HU01.out.trans hu3; have e2 := HE2.out _ HU03.out; clear hu3))
    go_ret
    exact ⟨rfl, HU3.out⟩
  by_cases hb100 : 100 < body.size
  case pos =>
    have hbI : (100 : Int) < (body.size : Int) := by omega
    clear O hsm hgd hbm
    go_enter Try.func7, Try.ntmps7
    go_upto_region 1 with fail
    generalize hW0 : w.alloc (Obj.cells #[.int .i64 src, .int .i64 dst, .string body] 31) = W0
    have HX0 : Hid (W0.heap[w.heap.size]? = some (boxRow src dst body)) := Lib.hid (by rw [← hW0]; exact heap_alloc_new _ _)
    have HLT : Hid (w.heap.size < W0.heap.size) := Lib.hid (by rw [← hW0]; simp)
    have HU0 : Hid (Upd [] w W0) := by rw [← hW0]; exact (Upd.refl _ _).alloc _
    have HE2 : Hid (∀ W, Upd [] W0 W → W.cell? ⟨w.heap.size, 2, none⟩ = some (.string body)) := fun W hW => hW.cell (boxRow.cells HX0.out).2.2.1 (by simp)
    clear hW0
    go_wp2_with (first | (go_at_call 10; refine (head_any _).mono ?_; rintro e w1 ⟨rfl, hu1⟩; have HU01 := Lib.hid hu1; have HU1 : Hid (Upd [] w w1) := HU0.out.trans hu1; clear hu1) | (go_at_call 23; refine (HS.out _ HU1.out).mono ?_; rintro e w2 ⟨rfl, rfl⟩) | (go_at_call 24; refine (HG.out _ HU1.out).mono ?_; rintro e w3 ⟨rfl, hu3⟩; have HU3 : Hid (Upd [] w w3) := HU1.out.trans hu3; have HU03 : Hid (Upd [] W0 w3) := HU01.out.trans hu3; have e2 := HE2.out _ HU03.out; clear hu3))
    go_ret
    exact ⟨rfl, HU3.out⟩
  have hbI : ¬ (100 : Int) < (body.size : Int) := by omega
  have hm2N : 2 ≤ m := by omega
  obtain ⟨xn, rfl⟩ := Int.eq_ofNat_of_zero_le x0
  obtain ⟨r, hr⟩ : ∃ r, r = xn % 100 := ⟨_, rfl⟩
  obtain ⟨d, hd⟩ : ∃ d, d = 1 + r := ⟨_, rfl⟩
  have hrem : (xn : Int).tmod 100 = (r : Int) := by rw [hr]; exact (Int.ofNat_tmod xn 100).symm
  have hadd : (1 : Int) + (r : Int) = (d : Int) := by omega
  have hd1 : 1 ≤ d := by omega
  have hd100 : d ≤ 100 := by omega
  obtain ⟨st, hst⟩ : ∃ st, st = PS.run [] (start m []) l := ⟨_, rfl⟩
  have HN : Hid (∀ W, Upd [] w W → Calls Try.prog 12 #[.int .i64 m, .slice none 0 0] W (NewPost m [] W)) := fun W hW => new_ok m (by omega) (by omega) none 0 [] (HA.out.f.upd hW) (fun _ => rfl) (Nat.zero_le _) rfl
  have HN2 : Hid (∀ (W : World) (b c : Nat), FasAt W b 0 (lateF d) → Calls Try.prog 12 #[.int .i64 m, .slice (some ⟨b, 0, none⟩) 1 c] W (NewPost m (lateF d) W)) := fun W b c hF => new_ok m (by omega) (by omega) (some ⟨b, 0, none⟩) c (lateF d) ⟨(show 1 ≤ maxLen by unfold maxLen; omega), (by intro h; cases h), fun _ => ⟨b, 0, rfl, hF⟩⟩ (by intro h; cases h) (show 1 ≤ 1000 by omega) (lateF_right hd100)
  have HPL : Hid (∀ (W : World) (f : NFoot) (base : Nat), Upd [] w W → NetAt W base f (NS.new m []) → w.heap.size ≤ base → base ≤ W.heap.size → Calls Try.prog 25 #[.pointer (some ⟨f.B, 0, none⟩), .int .i64 m, .slice none 0 0, .slice oa l.length oc] W (PlayPost base f st m W)) := by
    intro W f base hW hN hb hb2
    rw [hst]
    exact play_start HA.out hW hN hb2 (fun j hj => Nat.le_trans hb (hN.ge j hj)) (by omega) (by omega) rfl (Nat.zero_le _) rfl (by omega) (Nat.zero_le _)
  have HFI : Hid ((st.net.send ⟨0, 1, body⟩).2 = 0 ∧ ∃ g, (st.net.send ⟨0, 1, body⟩).1.got 1 = g ++ [⟨0, 1, body⟩]) := by rw [hst]; exact delays_first hm2N (by omega) l hl200 body
  have HOK : Hid (st.Ok m 200 1800 60 800000) := by rw [hst]; exact start_ok (by omega) (by omega) rfl (Nat.zero_le _) l hl200
  have HWT : Hid (((NS.new m (lateF d)).send ⟨0, 1, body⟩).2 = 0 ∧ WaitN m d 0 ⟨0, 1, body⟩ ((NS.new m (lateF d)).send ⟨0, 1, body⟩).1) := wait_send hm2N (by omega) hd100 body
  have HNWF : Hid ((NS.new m (lateF d)).Wf) := new_wf (by omega) (by omega) (lateF_right hd100)
  clear O hsm hgd hst hr hd x0 hbm
  go_enter Try.func7, Try.ntmps7
  go_upto_region 1 with fail
  generalize hW0 : w.alloc (Obj.cells #[.int .i64 src, .int .i64 dst, .string body] 31) = W0
  have HX0 : Hid (W0.heap[w.heap.size]? = some (boxRow src dst body)) := Lib.hid (by rw [← hW0]; exact heap_alloc_new _ _)
  have HLT : Hid (w.heap.size < W0.heap.size) := Lib.hid (by rw [← hW0]; simp)
  have HU0 : Hid (Upd [] w W0) := by rw [← hW0]; exact (Upd.refl _ _).alloc _
  have HE2 : Hid (∀ W, Upd [] W0 W → W.cell? ⟨w.heap.size, 2, none⟩ = some (.string body)) := fun W hW => hW.cell (boxRow.cells HX0.out).2.2.1 (by simp)
  clear hW0
  go_upto_region 4 with (first | (go_at_call 10; refine (head_any _).mono ?_; rintro e w1 ⟨rfl, hu1⟩; have HU01 := Lib.hid hu1; have HU1 : Hid (Upd [] w w1) := HU0.out.trans hu1; clear hu1) | (go_at_call 23; refine (HS.out _ HU1.out).mono ?_; rintro e w2 ⟨rfl, rfl⟩) | (go_at_call 24; refine (HG.out _ HU1.out).mono ?_; rintro e w3 ⟨rfl, hu3⟩; have HU3 : Hid (Upd [] w w3) := HU1.out.trans hu3; have HU03 : Hid (Upd [] W0 w3) := HU01.out.trans hu3; have e2 := HE2.out _ HU03.out; clear hu3))
  have HX3 : Hid (w3.heap[w.heap.size]? = some (boxRow src dst body)) := Lib.hid (by rw [HU03.out.block _ HLT.out (by simp)]; exact HX0.out)
  obtain ⟨t0, t1, t2, tf⟩ := boxRow.cells HX3.out
  clear hb100 hbI e2
  go_upto_region 6 with fail
  clear t0 t1 t2 tf
  generalize hW5 : (w3.setCell ⟨w.heap.size, 0, none⟩ (.int .i64 0)).setCell ⟨w.heap.size, 1, none⟩ (.int .i64 1) = W5
  have HX5 : Hid (W5.heap[w.heap.size]? = some (boxRow 0 1 body)) := Lib.hid (by rw [← hW5]; exact boxRow.set HX3.out)
  have HU5 : Hid (Upd [] w W5) := by rw [← hW5]; exact (HU3.out.setCell (.inr (Nat.le_refl _)) _).setCell (.inr (Nat.le_refl _)) _
  clear hW5
  have HQ : Hid (∀ W, Upd [] W5 W → W.heap[w.heap.size]? = some (boxRow 0 1 body)) := fun W hW => by rw [hW.block _ (Array.getElem?_eq_some_iff.1 HX5.out).1 (by simp)]; exact HX5.out
  go_wp2_with fail
  refine (HN.out _ HU5.out).mono ?_
  rintro e w6 ⟨f, rfl, hn6, hu6⟩
  have HN6 := Lib.hid hn6
  have HU6 := Lib.hid hu6
  clear hn6 hu6
  go_wp2_with fail
  refine (HPL.out _ _ _ (HU5.out.trans HU6.out) HN6.out HU5.out.size HU6.out.size).mono ?_
  rintro e w7 ⟨sv, G, f', rfl, hb7, hn7, ht7⟩
  have hk : NK W5 w7 f.B st.net [] := ⟨f', ht7.B, hn7, play_upd (Upd.refl _ _) HU6.out HN6.out ht7, by simp⟩
  obtain ⟨sa, sc, hsv, -⟩ := hb7.sent.read
  subst hsv
  obtain ⟨ln, hln⟩ : ∃ ln, ln = st.bk.sent.length := ⟨_, rfl⟩
  rw [← hln]
  obtain ⟨B, hB⟩ : ∃ B, B = f.B := ⟨_, rfl⟩
  rw [← hB] at hk
  rw [← hB]
  obtain ⟨u0, u1, u2, -⟩ := boxRow.cells (HQ.out _ hk.upd)
  have HK := Lib.hid hk
  clear hb7 hn7 ht7 hB hk hln HN6 HU6
  go_wp2_with fail
  have c : Calls Try.prog 14 #[.pointer (some ⟨B, 0, none⟩), .agg #[.int .i64 0, .int .i64 1, .string body]] w7 _ := nk_send HK.out HOK.out.wf (Nat.le_trans HOK.out.time (by decide)) (Nat.le_trans HOK.out.num (by decide)) (Nat.le_trans HOK.out.fat (by decide)) ⟨0, 1, body⟩
  rw [HFI.out.1] at c
  refine c.mono ?_
  rintro e w8 ⟨rfl, hk8⟩
  have HK8 := Lib.hid hk8
  clear c hk8 u0 u1 u2
  go_wp2_with fail
  have c : Calls Try.prog 16 #[.pointer (some ⟨B, 0, none⟩), .int .i64 1] w8 _ := nk_recv HK8.out (send_wf HOK.out.wf _) 1 (by rw [send_ways, HOK.out.ways]; omega)
  refine c.mono ?_
  rintro e w9 ⟨v, rfl, hk9⟩
  obtain ⟨a9, c9, hv9, hx9⟩ := (hk9.pks (List.mem_cons_self)).read
  obtain ⟨g, hg⟩ := HFI.out.2
  rw [hg] at hv9 hx9
  obtain ⟨gl, hgl⟩ : ∃ gl, gl = g.length := ⟨_, rfl⟩
  have hgl1 : (g ++ [(⟨0, 1, body⟩ : Pk)]).length = gl + 1 := by rw [hgl]; simp
  obtain ⟨b9, hb9, hat⟩ := hx9 (by simp)
  have hat : PkAt w9 b9 (gl * 3) ⟨0, 1, body⟩ := by
    have := hat gl (by rw [hgl1]; omega)
    rw [List.getElem_append_right (by omega)] at this
    simpa [hgl] using this
  rw [hgl1] at hv9
  have hg4 : gl + 1 ≤ 4000 := by
    have h1 := NS.taken_le (st.net.send ⟨0, 1, body⟩).1 1
    have h2 := (send_wf HOK.out.wf ⟨0, 1, body⟩).way_le 1
    have h3 := (send_wf HOK.out.wf ⟨0, 1, body⟩).lim
    have h4 : ((st.net.send ⟨0, 1, body⟩).1.got 1).length = gl + 1 := by rw [hg, hgl1]
    unfold NS.got at h4
    rw [List.length_map] at h4
    omega
  subst hb9
  subst hv9
  have HU9 : Hid (Upd [] W5 w9) := hk9.upd
  obtain ⟨u0, u1, u2, -⟩ := boxRow.cells (HQ.out _ HU9.out)
  obtain ⟨v0, v1, v2⟩ := hat
  simp only at v0 v1 v2
  clear c hk9 hgl hgl1 hx9 hg HK8 HK
  have r0 := fun p : After w9 => p.cell u0
  have r1 := fun p : After w9 => p.cell u1
  have r2 := fun p : After w9 => p.cell u2
  have q0 := fun p : After w9 => p.cell v0
  have q1 := fun p : After w9 => p.cell v1
  have q2 := fun p : After w9 => p.cell v2
  have HUp : Hid (∀ p : After w9, Upd [] W5 p.w) := fun p => HU9.out.trans p.upd
  clear u0 u1 u2 v0 v1 v2
  have hz1 : (((gl + 1 : Nat) : Int) == 0) = false := by rw [beq_eq_false_iff_ne]; omega
  have hz2 : ((gl : Int) + 1 == 0) = false := by rw [beq_eq_false_iff_ne]; omega
  go_wp2_with fail
  refine region_all (by kernel_rfl) (by kernel_rfl) ?_
  repeat (go_big_quiet_step (fail))
  refine wpQuiet_nil ?_
  rintro _ ⟨p, rfl⟩
  have HU10 : Hid (Upd [] W5 p.w) := HUp.out p
  obtain ⟨W10, hW10⟩ : ∃ W10, W10 = p.w := ⟨_, rfl⟩
  rw [← hW10] at HU10
  rw [← hW10]
  clear hW10 r0 r1 r2 q0 q1 q2 HUp p hz1 hz2
  go_wp2_with fail
  generalize hW11 : W10.alloc (Obj.cells #[.bool false, .int .i64 1, .int .i64 (d : Int)] 51) = W11
  have hrow : W11.heap[W10.heap.size]? = some (.cells #[.bool false, .int .i64 1, .int .i64 (d : Int)] 51 (0, 0)) := by rw [← hW11]; exact heap_alloc_new _ _
  have HU11 : Hid (Upd [] W5 W11) := by rw [← hW11]; exact HU10.out.alloc _
  have hfa : FasAt W11 W10.heap.size 0 (lateF d) := fun i hi => by
    have hc : ∀ j, W11.cell? ⟨W10.heap.size, j, none⟩ = (#[Value.bool false, .int .i64 1, .int .i64 (d : Int)] : Array Value)[j]? := fun j => cell_of_row W11 _ j _ 51 (0, 0) hrow
    match i, hi with
    | 0, _ => exact ⟨hc 0, hc 1, hc 2⟩
  refine (HN2.out _ _ _ hfa).mono ?_
  rintro e w12 ⟨f2, rfl, hn12', hu12⟩
  have HK12 : Hid (NK W11 w12 f2.B (NS.new m (lateF d)) []) := ⟨f2, rfl, hn12', hu12, by simp⟩
  obtain ⟨B2, hB2⟩ : ∃ B2, B2 = f2.B := ⟨_, rfl⟩
  rw [← hB2] at HK12
  rw [← hB2]
  obtain ⟨u0, u1, u2, -⟩ := boxRow.cells (HQ.out _ (HU11.out.trans hu12))
  clear hn12' hu12 hB2 hfa hrow hW11
  go_wp2_with fail
  have c : Calls Try.prog 14 #[.pointer (some ⟨B2, 0, none⟩), .agg #[.int .i64 0, .int .i64 1, .string body]] w12 _ := nk_send HK12.out HNWF.out (Nat.zero_le _) (Nat.zero_le _) (show 1 ≤ 1000000 by decide) ⟨0, 1, body⟩
  rw [HWT.out.1] at c
  refine c.mono ?_
  rintro e w13 ⟨rfl, hk13⟩
  obtain ⟨N0, hN0⟩ : ∃ N0, N0 = ((NS.new m (lateF d)).send ⟨0, 1, body⟩).1 := ⟨_, rfl⟩
  have HW0 : Hid (WaitN m d 0 ⟨0, 1, body⟩ N0) := by rw [hN0]; exact HWT.out.2
  rw [← hN0] at hk13
  have HK13 := Lib.hid hk13
  clear c hk13 u0 u1 u2 hN0
  go_wp2_with fail
  go_loopw [15] (fun i wr => ∃ k : Nat, k ≤ d ∧ i = .int .i64 k ∧ ∃ N, Hid (WaitN m d k ⟨0, 1, body⟩ N) ∧ Hid (NK W11 wr B2 N [])) (fun i _ => d - (intOf i).toNat)
  case atStart => exact ⟨0, Nat.zero_le _, rfl, N0, HW0, HK13⟩
  case round =>
    obtain ⟨k, hk, rfl, N, hw, hn⟩ := hrel
    by_cases hkd : k < d
    · obtain ⟨hg0, hwr⟩ := wait_recv hw.out hkd hm2N
      have HWR := Lib.hid hwr
      clear hwr
      go_wp2_with fail
      have c : Calls Try.prog 16 #[.pointer (some ⟨B2, 0, none⟩), .int .i64 1] wr _ := nk_recv hn.out hw.out.wf 1 (by rw [hw.out.ways]; omega)
      refine c.mono ?_
      rintro e wa ⟨v, rfl, hka⟩
      obtain ⟨va, vc, hv, -⟩ := (hka.pks (List.mem_cons_self)).read
      rw [hg0] at hv
      subst hv
      have HKA : Hid (NK W11 wa B2 (N.recv 1) []) := by
        obtain ⟨f5, x1, x2, x3, -⟩ := hka
        exact ⟨f5, x1, x2, x3, by simp⟩
      clear c hka hg0
      go_wp2_with fail
      have c := nk_waiting HKA.out
      rw [HWR.out.count] at c
      refine c.mono ?_
      rintro e wb ⟨rfl, rfl⟩
      clear c
      go_wp2_with fail
      refine (nk_step HKA.out (by rw [HWR.out.time]; omega)).mono ?_
      rintro e wb ⟨rfl, hkb⟩
      have HKB := Lib.hid hkb
      clear hkb
      go_wp2_with fail
      exact ⟨⟨k + 1, by omega, by go_num, (N.recv 1).step, Lib.hid (wait_step HWR.out), HKB⟩, by simp [intOf]; omega⟩
    · obtain rfl : k = d := by omega
      have hg1 := wait_end hw.out
      go_wp2_with fail
      have c : Calls Try.prog 16 #[.pointer (some ⟨B2, 0, none⟩), .int .i64 1] wr _ := nk_recv hn.out hw.out.wf 1 (by rw [hw.out.ways]; omega)
      refine c.mono ?_
      rintro e wa ⟨v, rfl, hka⟩
      obtain ⟨va, vc, hv, hx⟩ := (hka.pks (List.mem_cons_self)).read
      rw [hg1] at hv hx
      obtain ⟨b5, hb5, hat⟩ := hx (by simp)
      have hat : PkAt wa b5 0 ⟨0, 1, body⟩ := by simpa using hat 0 (by simp)
      subst hb5
      subst hv
      have HUA : Hid (Upd [] W5 wa) := HU11.out.trans hka.upd
      obtain ⟨u0, u1, u2, -⟩ := boxRow.cells (HQ.out _ HUA.out)
      obtain ⟨v0, v1, v2⟩ := hat
      simp only [Nat.zero_add] at v0 v1 v2
      clear c hka hg1 hx
      have r0 := fun p : After wa => p.cell u0
      have r1 := fun p : After wa => p.cell u1
      have r2 := fun p : After wa => p.cell u2
      have q0 := fun p : After wa => p.cell v0
      have q1 := fun p : After wa => p.cell v1
      have q2 := fun p : After wa => p.cell v2
      have HUp : Hid (∀ p : After wa, Upd [] w p.w) := fun p => (HU5.out.trans HUA.out).trans p.upd
      clear u0 u1 u2 v0 v1 v2
      go_wp2_with fail
      refine region_all (by kernel_rfl) (by kernel_rfl) ?_
      repeat (go_big_quiet_step (fail))
      refine wpQuiet_nil ?_
      rintro _ ⟨p, rfl⟩
      go_wp2
      go_ret
      exact ⟨rfl, HUp.out p⟩
end Go.Proofs.Ytlmfgdibodpniaa
