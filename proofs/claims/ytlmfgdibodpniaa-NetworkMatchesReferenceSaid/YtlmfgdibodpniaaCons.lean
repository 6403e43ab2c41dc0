/- NetworkConserves, walked. -/
import Derived.Test.YtlmfgdibodpniaaPlain
namespace Go.Proofs.Ytlmfgdibodpniaa
open Go.RowKit

theorem smallB_parts {fs : List Fa} {l : List OpR} (h : smallB fs l = true) : fs.length ≤ 60 ∧ l.length ≤ 200 := by
  simp only [smallB, Bool.and_eq_true, decide_eq_true_eq] at h
  exact ⟨h.1.1, h.1.2⟩
theorem goodB_parts {n : Int} {fs : List Fa} (h : goodB n fs = true) : 1 ≤ n ∧ n ≤ 12 ∧ rightB fs = true := by
  simp only [goodB, Bool.and_eq_true, decide_eq_true_eq] at h
  exact ⟨h.1.1, h.1.2, h.2⟩

/-- The arguments of the laws: fates and operations. -/
structure Args (w : World) (fa : Option Addr) (fc : Nat) (fs : List Fa) (oa : Option Addr) (l : List OpR) : Prop where
  f : ArgFates w fa fs
  c : fa = none → fc = 0
  o : ArgOps w oa l
theorem Args.upd {w w' : World} {fa : Option Addr} {fc : Nat} {fs : List Fa} {oa : Option Addr} {l : List OpR} (h : Args w fa fc fs oa l) (hu : Upd [] w w') : Args w' fa fc fs oa l := ⟨h.f.upd hu, h.c, h.o.upd hu⟩
theorem ArgFates.lt {w : World} {a : Option Addr} {l : List Fa} (h : ArgFates w a l) (hl : l ≠ []) : ∀ b o, a = some ⟨b, o, none⟩ → b < w.heap.size := by
  intro b o ha
  obtain ⟨b', o', ha', hx⟩ := h.at_ hl
  rw [ha] at ha'
  obtain ⟨rfl, rfl⟩ : b = b' ∧ o = o' := by simpa using ha'
  exact (hx 0 (List.length_pos_iff.2 hl)).lt

/-- play, at a network just made; the lists came in. -/
theorem play_start {w W : World} {fa : Option Addr} {fc : Nat} {fs : List Fa} {oa : Option Addr} {oc : Nat} {l : List OpR} (A : Args w fa fc fs oa l) (hu : Upd [] w W) {f : NFoot} {n : Nat} {gs : List Fa} {base : Nat} (hN : NetAt W base f (NS.new n gs)) (hb : base ≤ W.heap.size) (hf : ∀ j ∈ f.list, w.heap.size ≤ j)
    (h1 : 1 ≤ n) (h2 : n ≤ 12) (hr : rightB gs = true) (hgl : gs.length ≤ 1000) (hrf : rightB fs = true) (hl : l.length ≤ 1000) (hfl : fs.length ≤ 1000) :
    Calls Try.prog 25 #[.pointer (some ⟨f.B, 0, none⟩), .int .i64 n, .slice fa fs.length fc, .slice oa l.length oc] W (PlayPost base f (PS.run fs ⟨NS.new n gs, 0, ⟨[], List.replicate n []⟩⟩ l) n W) := by
  have A' := A.upd hu
  exact play_any hN (new_wf h1 h2 hr) hb n (by simp [NS.new]) fa fc fs A'.f hrf (fun hne b o ha hm => by have := hf b hm; have := A.f.lt hne b o ha; omega)
    oa oc l A'.o (fun hne b o ha hm => by
      obtain ⟨b', o', ha', hx⟩ := A.o.at_ hne
      rw [ha] at ha'
      obtain ⟨rfl, rfl⟩ : b = b' ∧ o = o' := by simpa using ha'
      have := hf b hm
      have := (hx 0 (List.length_pos_iff.2 hne)).lt
      omega) hl hfl (by simp [NS.new]) (by simp [NS.new]) hgl

/-- The laws' first lines: head, small, good. -/
theorem pre_small {w W : World} {fa : Option Addr} {fc : Nat} {fs : List Fa} {oa : Option Addr} {oc : Nat} {l : List OpR} (A : Args w fa fc fs oa l) (hu : Upd [] w W) :
    Calls Try.prog 23 #[.slice fa fs.length fc, .slice oa l.length oc] W fun e w' => e = .returned (.bool (smallB fs l)) ∧ W = w' := by
  have A' := A.upd hu
  exact small_any fa oa fc oc fs l A'.o A'.f.len
theorem pre_good {w W : World} {fa : Option Addr} {fc : Nat} {fs : List Fa} {oa : Option Addr} {l : List OpR} (A : Args w fa fc fs oa l) (hu : Upd [] w W) (n : Int) (h : fs.length ≤ 1000) :
    Calls Try.prog 24 #[.int .i64 n, .slice fa fs.length fc] W fun e w' => e = .returned (.bool (goodB n fs)) ∧ Upd [] W w' := by
  have A' := A.upd hu
  exact good_any n fa fc fs A'.f A'.c h

set_option maxRecDepth 100000 in
set_option maxHeartbeats 4000000 in
theorem conserves_walk (w : World) (n : Int) (fa : Option Addr) (fc : Nat) (fs : List Fa) (oa : Option Addr) (oc : Nat) (l : List OpR) (A : Args w fa fc fs oa l) :
    Calls Try.prog 5 #[.int .i64 n, .slice fa fs.length fc, .slice oa l.length oc] w fun e w' => e = .returned (.bool true) ∧ Upd [] w w' := by
  have HA := Lib.hid A
  by_cases hsm : smallB fs l = true
  case neg =>
    have hsm : smallB fs l = false := by simpa using hsm
    have HS : Hid (∀ W, Upd [] w W → Calls Try.prog 23 #[.slice fa fs.length fc, .slice oa l.length oc] W fun e w' => e = .returned (.bool false) ∧ W = w') := fun W hW => by have := pre_small HA.out hW (oc := oc); rwa [hsm] at this
    clear A hsm
    go_enter Try.func5, Try.ntmps5
    go_wp2_with (first | (go_at_call 10; refine (head_any _).mono ?_; rintro e w1 ⟨rfl, hu1⟩; have HU1 := Lib.hid hu1; clear hu1) | (go_at_call 23; refine (HS.out _ HU1.out).mono ?_; rintro e w2 ⟨rfl, rfl⟩))
    go_ret
    exact ⟨rfl, HU1.out⟩
  obtain ⟨hf60, hl200⟩ := smallB_parts hsm
  have HS : Hid (∀ W, Upd [] w W → Calls Try.prog 23 #[.slice fa fs.length fc, .slice oa l.length oc] W fun e w' => e = .returned (.bool true) ∧ W = w') := fun W hW => by have := pre_small HA.out hW (oc := oc); rwa [hsm] at this
  by_cases hgd : goodB n fs = true
  case neg =>
    have hgd : goodB n fs = false := by simpa using hgd
    have HG : Hid (∀ W, Upd [] w W → Calls Try.prog 24 #[.int .i64 n, .slice fa fs.length fc] W fun e w' => e = .returned (.bool false) ∧ Upd [] W w') := fun W hW => by have := pre_good HA.out hW n (by omega); rwa [hgd] at this
    clear A hsm hgd
    go_enter Try.func5, Try.ntmps5
    go_wp2_with (first | (go_at_call 10; refine (head_any _).mono ?_; rintro e w1 ⟨rfl, hu1⟩; have HU1 := Lib.hid hu1; clear hu1) | (go_at_call 23; refine (HS.out _ HU1.out).mono ?_; rintro e w2 ⟨rfl, rfl⟩) | (go_at_call 24; refine (HG.out _ HU1.out).mono ?_; rintro e w3 ⟨rfl, hu3⟩; have HU3 := Lib.hid hu3; clear hu3))
    go_ret
    exact ⟨rfl, HU1.out.trans HU3.out⟩
  obtain ⟨hn1, hn12, hr⟩ := goodB_parts hgd
  obtain ⟨m, rfl⟩ := Int.eq_ofNat_of_zero_le (show 0 ≤ n by omega)
  have HG : Hid (∀ W, Upd [] w W → Calls Try.prog 24 #[.int .i64 m, .slice fa fs.length fc] W fun e w' => e = .returned (.bool true) ∧ Upd [] W w') := fun W hW => by have := pre_good HA.out hW m (by omega); rwa [hgd] at this
  have HN : Hid (∀ W, Upd [] w W → Calls Try.prog 12 #[.int .i64 m, .slice fa fs.length fc] W (NewPost m fs W)) := fun W hW => new_ok m (by omega) (by omega) fa fc fs (HA.out.f.upd hW) HA.out.c (by omega) hr
  obtain ⟨st, hst⟩ : ∃ st, st = PS.run fs (start m fs) l := ⟨_, rfl⟩
  have HPL : Hid (∀ W f, Upd [] w W → NetAt W W.heap.size f (NS.new m fs) → True) := fun _ _ _ _ => trivial
  have HPL : Hid (∀ (W : World) (f : NFoot) (base : Nat), Upd [] w W → NetAt W base f (NS.new m fs) → w.heap.size ≤ base → base ≤ W.heap.size → Calls Try.prog 25 #[.pointer (some ⟨f.B, 0, none⟩), .int .i64 m, .slice fa fs.length fc, .slice oa l.length oc] W (PlayPost base f st m W)) := by
    intro W f base hW hN hb hb2
    rw [hst]
    exact play_start HA.out hW hN hb2 (fun j hj => Nat.le_trans hb (hN.ge j hj)) (by omega) (by omega) hr (by omega) hr (by omega) (by omega)
  have HI : Hid (Inv fs m st) := by rw [hst]; exact run_inv l (start_inv (by omega) (by omega) hr)
  have hok := PS.run_ok hr (ht := 0) (hn := 0) (hf := 60) (hs := 0) (n0 := m) l (s := start m fs) ⟨(start_inv (by omega) (by omega) hr).wf, by simp [start, NS.new], by simp [start], by simp [start, NS.new], by simp [start, NS.new], by simpa [start, NS.new] using hf60, by simp [start], by simp [start], fun x hx => by simp only [start, List.mem_replicate] at hx; rw [hx.2]; simp⟩ 200 1800 800000 (by omega) (by omega) (by omega)
  rw [← hst] at hok
  have HOK := Lib.hid hok
  clear A hsm hgd hst hok hr
  go_enter Try.func5, Try.ntmps5
  go_wp2_with (first | (go_at_call 10; refine (head_any _).mono ?_; rintro e w1 ⟨rfl, hu1⟩; have HU1 := Lib.hid hu1; clear hu1) | (go_at_call 23; refine (HS.out _ HU1.out).mono ?_; rintro e w2 ⟨rfl, rfl⟩) | (go_at_call 24; refine (HG.out _ HU1.out).mono ?_; rintro e w3 ⟨rfl, hu3⟩; have HU3 : Hid (Upd [] w w3) := HU1.out.trans hu3; clear hu3) | (go_at_call 12; refine (HN.out _ HU3.out).mono ?_; rintro e w4 ⟨f, rfl, hn4, hu4⟩; have HN4 := Lib.hid hn4; have HU4 : Hid (Upd [] w w4) := HU3.out.trans hu4; have HU34 := Lib.hid hu4; clear hn4 hu4) | (go_at_call 25; refine (HPL.out _ _ _ HU4.out HN4.out HU3.out.size HU34.out.size).mono ?_; rintro e w5 ⟨sv, G, f', rfl, hb5, hn5, ht5⟩; have HB5 := Lib.hid hb5; have HN5 := Lib.hid hn5; have HT5 := Lib.hid ht5; obtain ⟨sa, sc, hsv, -⟩ := hb5.sent.read; obtain ⟨ln, hln⟩ : ∃ ln, ln = st.bk.sent.length := ⟨_, rfl⟩; rw [← hln] at hsv; have HLN := Lib.hid hln; clear hb5 hn5 ht5 hln; subst hsv))
  generalize hW6 : w5.alloc (Obj.cells #[Value.slice sa ln sc, Value.slice (some { block := G, off := 0 }) m m] 46) = W6
  have HU6 : Hid (Upd [] w5 W6) := by rw [← hW6]; exact (Upd.refl _ _).alloc _
  have c0 : W6.cell? ⟨w5.heap.size, 0, none⟩ = some (.slice sa ln sc) := by rw [← hW6]; simp
  have c1 : W6.cell? ⟨w5.heap.size, 1, none⟩ = some (.slice (some ⟨G, 0, none⟩) m m) := by rw [← hW6]; simp
  have HB6 : Hid (BookR W6 w4.heap.size w5.heap.size (.slice sa ln sc) G st.bk) := HB5.out.upd HU6.out (by simp) (Nat.le_refl _)
  have HN6 : Hid (NetAt W6 w3.heap.size f' st.net) := HN5.out.upd HU6.out (by simp)
  obtain ⟨tt, htt⟩ : ∃ tt, tt = total st.bk := ⟨_, rfl⟩
  obtain ⟨cc, hcc⟩ : ∃ cc, cc = st.net.count := ⟨_, rfl⟩
  have hsum : tt + cc = ln := by rw [htt, hcc, HLN.out]; exact HI.out.cons
  have hl18 : ln ≤ 1800 := by rw [HLN.out]; exact HOK.out.sent
  have HRC : Hid (∀ W, Upd [] W6 W → Calls Try.prog 27 #[.agg #[.slice sa ln sc, .slice (some ⟨G, 0, none⟩) m m]] W fun e w' => e = .returned (.int .i64 tt) ∧ Upd [] W w') := by
    intro W hW
    rw [htt]
    exact received_any (HB6.out.upd hW (by simp) HU6.out.size) m HI.out.got (by omega) (fun l hl => Nat.le_trans (HOK.out.gl l hl) (by omega)) m
  have HWT : Hid (∀ W, Upd [] W6 W → Calls Try.prog 21 #[.pointer (some ⟨f.B, 0, none⟩)] W fun e w' => e = .returned (.int .i64 cc) ∧ Upd [] W w') := by
    intro W hW
    have := waiting_any (HN6.out.upd hW (by simp))
    rw [HT5.out.B, ← hcc] at this
    exact this.mono fun e w' h => ⟨h.1, by rw [← h.2]; exact Upd.refl _ _⟩
  have hbool : ((ln : Int) == (ln : Int)) = true := by simp
  have hsI : (tt : Int) + (cc : Int) = (ln : Int) := by omega
  have HFU : Hid (∀ p : After W6, Upd [] w p.w) := by
    intro p
    have h5 : Upd [] w w5 := ⟨HT5.out.upd.os.trans HU4.out.os, HT5.out.upd.tape.trans HU4.out.tape, HT5.out.upd.output.trans HU4.out.output, Nat.le_trans HU4.out.size HT5.out.upd.size, fun j hj _ => by
      rw [HT5.out.upd.block j (Nat.lt_of_lt_of_le hj HU4.out.size) (fun hm => by have := HN4.out.ge j hm; have := HU3.out.size; omega)]
      exact HU4.out.block j hj (by simp)⟩
    exact (h5.trans HU6.out).trans p.upd
  clear htt hcc hW6
  have r0 := fun p : After W6 => p.cell c0
  have r1 := fun p : After W6 => p.cell c1
  clear hsum
  refine region_all (by kernel_rfl) (by kernel_rfl) ?_
  repeat (go_big_quiet_step (first | (go_at_call 27; exact After.call _ (HRC.out _ (After.upd _))) | (go_at_call 21; exact After.call _ (HWT.out _ (After.upd _)))))
  refine wpQuiet_nil ?_
  rintro _ ⟨p, rfl⟩
  go_wp2
  go_ret
  exact ⟨by simp, HFU.out p⟩
end Go.Proofs.Ytlmfgdibodpniaa
