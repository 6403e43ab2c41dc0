/- NetworkFates, walked. -/
import Derived.Test.YtlmfgdibodpniaaHouses
namespace Go.Proofs.Ytlmfgdibodpniaa
open Go.RowKit

/-! ### Rows of fates -/
def FatesAt (w : World) (base : Nat) (v : Value) (L : List Fa) : Prop := w.ownsRow base 51 3 v L.length (L.flatMap faVals)
theorem FatesAt.ge {w : World} {b : Nat} {v : Value} {L : List Fa} (h : FatesAt w b v L) : ∀ k, v.ownBlock = some k → b ≤ k := fun k hk => (World.ownsRow.lt h k hk).1
theorem FatesAt.alloc {w : World} {b : Nat} {v : Value} {L : List Fa} (h : FatesAt w b v L) (o : Obj) : FatesAt (w.alloc o) b v L := World.ownsRow.alloc h o
theorem FatesAt.args {w : World} {base : Nat} {a : Option Addr} {c : Nat} {L : List Fa} (h : FatesAt w base (.slice a L.length c) L) (hl : L.length ≤ maxLen) : ArgFates w a L := by
  have h0 : w.ownsRow base 51 3 (.slice a L.length c) L.length (L.flatMap faVals) := h
  refine ⟨hl, fun ha => ?_, fun hne => ?_⟩
  · rcases h0.2 with ⟨hv, hn⟩ | ⟨g, cap, cur, hv, -⟩
    · exact List.eq_nil_of_length_eq_zero hn
    · rw [ha] at hv; simp at hv
  · rcases h0.2 with ⟨hv, hn⟩ | ⟨g, cap, cur, hv, -⟩
    · exact absurd (List.eq_nil_of_length_eq_zero hn) hne
    · have ha : a = some ⟨g, 0, none⟩ := by simp at hv; exact hv.1
      refine ⟨g, 0, ha, fasAt_of fun j u hj => ?_⟩
      subst ha
      have := World.ownsRow.cells h0 (g := g) rfl j u hj
      rw [Addr.add_lit] at this
      exact this

/-- More fates at the end. -/
theorem wpList_append_fates {ops : Array Oper} {rest : List Oper} {o : Oper} {a : Act} {w : World} {Q : Exit → Act → World → Prop} (hgd : o.guard = none) (s x : Operand)
    (ho : o.op = .call { callee := .builtin .append, args := #[s, x], argTypes := #[22, 22] })
    (base : Nat) (v : Value) (L : List Fa) (hs : a.eval s = v) (hown : Hid (FatesAt w base v L))
    (ad : Addr) (cc : Nat) (M : List Fa) (hx : a.eval x = .slice (some ad) M.length cc) (hX : Hid (∀ j u, (M.flatMap faVals)[j]? = some u → w.cell? (ad.add j) = some u)) (hM : 0 < M.length) (hl : L.length + M.length ≤ 100000) (hbase : base ≤ w.heap.size)
    (h : ∀ g cap w', Hid (FatesAt w' base (.slice (some ⟨g, 0, none⟩) (L.length + M.length) cap) (L ++ M)) → Hid (w.grownBy w' v.ownBlock) → wpList Try.prog ops Q rest (a.put o.dst (.slice (some ⟨g, 0, none⟩) (L.length + M.length) cap)) w') :
    wpList Try.prog ops Q (o :: rest) a w := by
  obtain ⟨i0, hi0, hz0, hz1, hz2⟩ := info_parts info51
  refine wpList_append_own2 w hgd s x 22 ho base 51 i0 _ 3 24 Try.underlying22 hi0 hz0 hz1 hz2 rfl (by decide) v L.length (L.flatMap faVals) hs hown.out ad M.length cc (M.flatMap faVals) hx (flat3_len M) hX.out (fun u hu => fa_one hu) hM (by unfold maxLen; omega) (by omega) hbase ?_
  intro g cap w' h1 h2 h3
  refine h g cap w' ?_ h2
  show w'.ownsRow base 51 3 _ _ _
  rw [List.length_append, List.flatMap_append]
  exact h1

def sliceLen : Value → Nat
  | .slice _ n _ => n
  | _ => 0

theorem FatesAt.cap {w : World} {b g n c : Nat} {L : List Fa} (h : FatesAt w b (.slice (some ⟨g, 0, none⟩) n c) L) : L.length ≤ c := by
  have h0 : w.ownsRow b 51 3 (.slice (some ⟨g, 0, none⟩) n c) L.length (L.flatMap faVals) := h
  rcases h0.2 with ⟨hv, -⟩ | ⟨g', cap', cur, hv, -, -, hn, -⟩
  · simp at hv
  · have hv' : (⟨g, 0, none⟩ : Addr) = ⟨g', 0, none⟩ ∧ n = L.length ∧ c = cap' := by simpa using hv
    rw [hv'.2.2]; exact hn

theorem sends_yes {l : List OpR} {q : Nat} (h : q < l.length) (hp : l[q].kind = 0) : sends (l.take (q + 1)) = sends (l.take q) + 1 := by
  unfold sends
  rw [List.take_succ_eq_append_getElem h, List.countP_append, List.countP_cons]
  simp [hp]
theorem sends_no {l : List OpR} {q : Nat} (h : q < l.length) (hp : ¬ l[q].kind = 0) : sends (l.take (q + 1)) = sends (l.take q) := by
  unfold sends
  rw [List.take_succ_eq_append_getElem h, List.countP_append, List.countP_cons]
  simp [hp]
theorem sends_le (l : List OpR) : sends l ≤ l.length := List.countP_le_length
theorem smallB_nil {fs : List Fa} (h : smallB fs [] = true) : fs.length ≤ 60 := (smallB_parts h).1

set_option maxRecDepth 100000 in
set_option maxHeartbeats 8000000 in
theorem fates_walk (w : World) (n : Int) (fa : Option Addr) (fc : Nat) (fs : List Fa) (ga : Option Addr) (gc : Nat) (gs : List Fa) (oa : Option Addr) (oc : Nat) (l : List OpR) (A : Args w fa fc fs oa l) (B : ArgFates w ga gs) (Bc : ga = none → gc = 0) :
    Calls Try.prog 9 #[.int .i64 n, .slice fa fs.length fc, .slice ga gs.length gc, .slice oa l.length oc] w fun e w' => e = .returned (.bool true) ∧ Upd [] w w' := by
  have HA := Lib.hid A
  have HB := Lib.hid B
  have hgl := B.len
  have HNO : Hid (∀ W, ArgOps W none []) := Lib.hid fun W => ⟨Nat.zero_le _, fun _ => rfl, fun h => absurd rfl h, fun x hx => by cases hx⟩
  have HBA : Hid (∀ W, Upd [] w W → Args W ga gc gs none []) := Lib.hid fun W hW => ⟨B.upd hW, Bc, HNO.out W⟩
  by_cases hsm : smallB fs l = true
  case neg =>
    have hsm : smallB fs l = false := by simpa using hsm
    have HS : Hid (∀ W, Upd [] w W → Calls Try.prog 23 #[.slice fa fs.length fc, .slice oa l.length oc] W fun e w' => e = .returned (.bool false) ∧ W = w') := fun W hW => by have := pre_small HA.out hW (oc := oc); rwa [hsm] at this
    clear A B Bc hsm
    go_enter Try.func9, Try.ntmps9
    go_wp2_with (first | (go_at_call 10; refine (head_any _).mono ?_; rintro e w1 ⟨rfl, hu1⟩; have HU1 := Lib.hid hu1; clear hu1) | (go_at_call_of 23 (Value.slice fa fs.length fc); refine (HS.out _ HU1.out).mono ?_; rintro e w2 ⟨rfl, rfl⟩))
    go_ret
    exact ⟨rfl, HU1.out⟩
  obtain ⟨hf60, hl200⟩ := smallB_parts hsm
  have HS : Hid (∀ W, Upd [] w W → Calls Try.prog 23 #[.slice fa fs.length fc, .slice oa l.length oc] W fun e w' => e = .returned (.bool true) ∧ W = w') := fun W hW => by have := pre_small HA.out hW (oc := oc); rwa [hsm] at this
  by_cases hsm2 : smallB gs [] = true
  case neg =>
    have hsm2 : smallB gs [] = false := by simpa using hsm2
    have HS2 : Hid (∀ W, Upd [] w W → Calls Try.prog 23 #[.slice ga gs.length gc, .slice none 0 0] W fun e w' => e = .returned (.bool false) ∧ W = w') := fun W hW => by have := pre_small (HBA.out w (Upd.refl _ _)) hW (oc := 0); rwa [hsm2] at this
    clear A B Bc hsm hsm2
    go_enter Try.func9, Try.ntmps9
    go_wp2_with (first | (go_at_call 10; refine (head_any _).mono ?_; rintro e w1 ⟨rfl, hu1⟩; have HU1 := Lib.hid hu1; clear hu1) | (go_at_call_of 23 (Value.slice fa fs.length fc); refine (HS.out _ HU1.out).mono ?_; rintro e w2 ⟨rfl, rfl⟩) | (go_at_call_of 23 (Value.slice ga gs.length gc); refine (HS2.out _ HU1.out).mono ?_; rintro e w2 ⟨rfl, rfl⟩))
    go_ret
    exact ⟨rfl, HU1.out⟩
  have hg60 : gs.length ≤ 60 := smallB_nil hsm2
  have HS2 : Hid (∀ W, Upd [] w W → Calls Try.prog 23 #[.slice ga gs.length gc, .slice none 0 0] W fun e w' => e = .returned (.bool true) ∧ W = w') := fun W hW => by have := pre_small (HBA.out w (Upd.refl _ _)) hW (oc := 0); rwa [hsm2] at this
  by_cases hgd : goodB n fs = true
  case neg =>
    have hgd : goodB n fs = false := by simpa using hgd
    have HG : Hid (∀ W, Upd [] w W → Calls Try.prog 24 #[.int .i64 n, .slice fa fs.length fc] W fun e w' => e = .returned (.bool false) ∧ Upd [] W w') := fun W hW => by have := pre_good HA.out hW n (by omega); rwa [hgd] at this
    clear A B Bc hsm hsm2 hgd
    go_enter Try.func9, Try.ntmps9
    go_wp2_with (first | (go_at_call 10; refine (head_any _).mono ?_; rintro e w1 ⟨rfl, hu1⟩; have HU1 := Lib.hid hu1; clear hu1) | (go_at_call_of 23 (Value.slice fa fs.length fc); refine (HS.out _ HU1.out).mono ?_; rintro e w2 ⟨rfl, rfl⟩) | (go_at_call_of 23 (Value.slice ga gs.length gc); refine (HS2.out _ HU1.out).mono ?_; rintro e w2 ⟨rfl, rfl⟩) | (go_at_call_of 24 (Value.slice fa fs.length fc); refine (HG.out _ HU1.out).mono ?_; rintro e w3 ⟨rfl, hu3⟩; have HU3 : Hid (Upd [] w w3) := HU1.out.trans hu3; clear hu3))
    go_ret
    exact ⟨rfl, HU3.out⟩
  obtain ⟨hn1, hn12, hr⟩ := goodB_parts hgd
  obtain ⟨m, rfl⟩ := Int.eq_ofNat_of_zero_le (show 0 ≤ n by omega)
  have HG : Hid (∀ W, Upd [] w W → Calls Try.prog 24 #[.int .i64 m, .slice fa fs.length fc] W fun e w' => e = .returned (.bool true) ∧ Upd [] W w') := fun W hW => by have := pre_good HA.out hW m (by omega); rwa [hgd] at this
  by_cases hgd2 : goodB m gs = true
  case neg =>
    have hgd2 : goodB m gs = false := by simpa using hgd2
    have HG2 : Hid (∀ W, Upd [] w W → Calls Try.prog 24 #[.int .i64 m, .slice ga gs.length gc] W fun e w' => e = .returned (.bool false) ∧ Upd [] W w') := fun W hW => by have := pre_good (HBA.out w (Upd.refl _ _)) hW m (by omega); rwa [hgd2] at this
    clear A B Bc hsm hsm2 hgd hgd2
    go_enter Try.func9, Try.ntmps9
    go_wp2_with (first | (go_at_call 10; refine (head_any _).mono ?_; rintro e w1 ⟨rfl, hu1⟩; have HU1 := Lib.hid hu1; clear hu1) | (go_at_call_of 23 (Value.slice fa fs.length fc); refine (HS.out _ HU1.out).mono ?_; rintro e w2 ⟨rfl, rfl⟩) | (go_at_call_of 23 (Value.slice ga gs.length gc); refine (HS2.out _ HU1.out).mono ?_; rintro e w2 ⟨rfl, rfl⟩) | (go_at_call_of 24 (Value.slice fa fs.length fc); refine (HG.out _ HU1.out).mono ?_; rintro e w3 ⟨rfl, hu3⟩; have HU3 : Hid (Upd [] w w3) := HU1.out.trans hu3; clear hu3) | (go_at_call_of 24 (Value.slice ga gs.length gc); refine (HG2.out _ HU3.out).mono ?_; rintro e w4 ⟨rfl, hu4⟩; have HU4 : Hid (Upd [] w w4) := HU3.out.trans hu4; clear hu4))
    go_ret
    exact ⟨rfl, HU4.out⟩
  obtain ⟨-, -, hr2⟩ := goodB_parts hgd2
  have HG2 : Hid (∀ W, Upd [] w W → Calls Try.prog 24 #[.int .i64 m, .slice ga gs.length gc] W fun e w' => e = .returned (.bool true) ∧ Upd [] W w') := fun W hW => by have := pre_good (HBA.out w (Upd.refl _ _)) hW m (by omega); rwa [hgd2] at this
  obtain ⟨LG, hLG⟩ : ∃ LG, LG = longF fs gs l := ⟨_, rfl⟩
  have hsl := sends_le l
  have hLGl : LG.length ≤ 320 := by rw [hLG]; unfold longF; simp; omega
  have hLGr : rightB LG = true := by rw [hLG]; exact rightB_long hr hr2
  have HN : Hid (∀ W, Upd [] w W → Calls Try.prog 12 #[.int .i64 m, .slice fa fs.length fc] W (NewPost m fs W)) := fun W hW => new_ok m (by omega) (by omega) fa fc fs (HA.out.f.upd hW) HA.out.c (by omega) hr
  have HN2 : Hid (∀ W (k la lc : Nat), k = LG.length → ArgFates W (some ⟨la, 0, none⟩) LG → Calls Try.prog 12 #[.int .i64 m, .slice (some ⟨la, 0, none⟩) k lc] W (NewPost m LG W)) := fun W k la lc hk hW => by rw [hk]; exact new_ok m (by omega) (by omega) _ lc LG hW (by intro h; cases h) (by omega) hLGr
  obtain ⟨st, hst⟩ : ∃ st, st = PS.run fs (start m fs) l := ⟨_, rfl⟩
  obtain ⟨st2, hst2⟩ : ∃ st2, st2 = PS.run LG (start m LG) l := ⟨_, rfl⟩
  have HPL : Hid (∀ (W : World) (f : NFoot) (base : Nat), Upd [] w W → NetAt W base f (NS.new m fs) → w.heap.size ≤ base → base ≤ W.heap.size → Calls Try.prog 25 #[.pointer (some ⟨f.B, 0, none⟩), .int .i64 m, .slice fa fs.length fc, .slice oa l.length oc] W (PlayPost base f st m W)) := by
    intro W f base hW hN hb hb2
    rw [hst]
    exact play_start HA.out hW hN hb2 (fun j hj => Nat.le_trans hb (hN.ge j hj)) (by omega) (by omega) hr (by omega) hr (by omega) (by omega)
  have HPL2 : Hid (∀ (wb W : World) (f : NFoot) (base la lc k : Nat), k = LG.length → Upd [] w wb → ArgFates wb (some ⟨la, 0, none⟩) LG → Upd [] wb W → NetAt W base f (NS.new m LG) → wb.heap.size ≤ base → base ≤ W.heap.size → Calls Try.prog 25 #[.pointer (some ⟨f.B, 0, none⟩), .int .i64 m, .slice (some ⟨la, 0, none⟩) k lc, .slice oa l.length oc] W (PlayPost base f st2 m W)) := by
    intro wb W f base la lc k hk hwb hF hW hN hb hb2
    rw [hst2, hk]
    exact play_start (w := wb) ⟨hF, by (intro h; cases h), HA.out.o.upd hwb⟩ hW hN hb2 (fun j hj => Nat.le_trans hb (hN.ge j hj)) (by omega) (by omega) hLGr (by omega) hLGr (by omega) (by omega)
  have HI : Hid (Inv fs m st) := by rw [hst]; exact run_inv l (start_inv (by omega) (by omega) hr)
  have HOK : Hid (st.Ok m 200 1800 60 800000) := by rw [hst]; exact start_ok (by omega) (by omega) hr hf60 l hl200
  have HTW : Hid (Twin st st2) := by rw [hst, hst2, hLG]; exact fates_law (by omega) (by omega) hr hr2 l
  have HLG := Lib.hid hLG
  have HLGL := Lib.hid hLGl
  clear A B Bc hsm hsm2 hgd hgd2 hst hst2 hr hr2 hLG hLGr hLGl hsl
  go_enter Try.func9, Try.ntmps9
  go_upto_region 4 with (first | (go_at_call 10; refine (head_any _).mono ?_; rintro e w1 ⟨rfl, hu1⟩; have HU1 := Lib.hid hu1; clear hu1) | (go_at_call_of 23 (Value.slice fa fs.length fc); refine (HS.out _ HU1.out).mono ?_; rintro e w2 ⟨rfl, rfl⟩) | (go_at_call_of 23 (Value.slice ga gs.length gc); refine (HS2.out _ HU1.out).mono ?_; rintro e w2 ⟨rfl, rfl⟩) | (go_at_call_of 24 (Value.slice fa fs.length fc); refine (HG.out _ HU1.out).mono ?_; rintro e w3 ⟨rfl, hu3⟩; have HU3 : Hid (Upd [] w w3) := HU1.out.trans hu3; clear hu3) | (go_at_call_of 24 (Value.slice ga gs.length gc); refine (HG2.out _ HU3.out).mono ?_; rintro e w4 ⟨rfl, hu4⟩; have HU4 : Hid (Upd [] w w4) := HU3.out.trans hu4; clear hu4))
  go_wp2_with fail
  go_loopw [10, 11] (fun s i wr => ∃ q : Nat, q ≤ l.length ∧ i = .int .i64 q ∧ ∃ k : Nat, k ≤ q ∧ s = .int .i64 k ∧ Hid (k = sends (l.take q)) ∧ Hid (Upd [] w4 wr)) (fun _ i _ => l.length - (intOf i).toNat)
  case atStart => exact ⟨0, Nat.zero_le _, rfl, 0, Nat.zero_le _, rfl, Lib.hid rfl, Upd.refl _ _⟩
  case round =>
    obtain ⟨q, hq, rfl, k, hkq, rfl, hK, hR⟩ := hrel
    by_cases hqm : q < l.length
    · obtain ⟨b, ob, rfl, hat⟩ : ∃ b ob, oa = some ⟨b, ob, none⟩ ∧ OpAt wr b (ob + q * 5) l[q] := (HA.out.o.upd (HU4.out.trans hR.out)).get hqm
      have g0 := hat.c0
      have HYES : Hid (l[q].kind = 0 → k + 1 = sends (l.take (q + 1))) := fun hk => by rw [sends_yes hqm hk, ← hK.out]
      have HNOT : Hid (¬ l[q].kind = 0 → k = sends (l.take (q + 1))) := fun hk => by rw [sends_no hqm hk, ← hK.out]
      obtain ⟨kd, hkd⟩ : ∃ kd, kd = l[q].kind := ⟨_, rfl⟩
      rw [← hkd] at g0 HYES HNOT
      clear hat hK hkd
      by_cases hk0 : kd = 0
      · subst hk0
        go_wp2_with fail
        exact ⟨⟨q + 1, by omega, by go_num, k + 1, by omega, by go_num, Lib.hid (HYES.out rfl), hR⟩, by simp [intOf]; omega⟩
      · have ht : (kd == 0) = false := by simpa using hk0
        have HK0 := Lib.hid hk0
        clear hk0
        go_wp2_with fail
        exact ⟨⟨q + 1, by omega, by go_num, k, by omega, rfl, Lib.hid (HNOT.out HK0.out), hR⟩, by simp [intOf]; omega⟩
    · have hqe : q = l.length := by omega
      have hke : k = sends l := by rw [hK.out, hqe, List.take_length]
      have HKE := Lib.hid hke
      have hk200 : k ≤ 200 := by omega
      have HW0 : Hid (Upd [] w wr) := HU4.out.trans hR.out
      obtain ⟨wo, rfl⟩ : ∃ wo : World, wo = wr := ⟨_, rfl⟩
      clear hK hR hke hqm hkq hq
      subst hqe
      go_upto_region 10 with fail
      go_cut [12] (fun v wc => ∃ g c, v = .slice (some ⟨g, 0, none⟩) fs.length c ∧ Hid (FatesAt wc wo.heap.size (.slice (some ⟨g, 0, none⟩) fs.length c) fs ∧ Upd [] wo wc))
      case first =>
        have HO0 : Hid (FatesAt (wo.alloc (.cells #[] 51)) wo.heap.size (.slice (some ⟨wo.heap.size, 0, none⟩) 0 0) []) :=
          ⟨rfl, .inr ⟨wo.heap.size, 0, #[], rfl, Nat.le_refl _, heap_alloc_new wo _, Nat.le_refl _, Nat.zero_le _, rfl, rfl⟩⟩
        have hUA : Upd [] wo (wo.alloc (.cells #[] 51)) := (Upd.refl _ _).alloc _
        have HUA := Lib.hid hUA
        by_cases hl0 : fs = []
        · subst hl0
          clear hUA
          cases fa with
          | none =>
            go_wp2
            go_meet
            exact ⟨wo.heap.size, 0, rfl, HO0.out, HUA.out⟩
          | some ad =>
            go_wp2
            go_meet
            exact ⟨wo.heap.size, 0, rfl, HO0.out, HUA.out⟩
        · obtain ⟨b, o, ha, hx⟩ := HA.out.f.at_ hl0
          subst ha
          have HNW : Hid (∀ j u, (fs.flatMap faVals)[j]? = some u → (wo.alloc (.cells #[] 51)).cell? ((⟨b, o, none⟩ : Addr).add j) = some u) := (hx.upd (HW0.out.trans hUA) (by simp)).news
          have hlp : 0 < fs.length := List.length_pos_iff.2 hl0
          have hll : ([] : List Fa).length + fs.length ≤ 100000 := by simp; omega
          have hbs : wo.heap.size ≤ (wo.alloc (Obj.cells #[] 51)).heap.size := by simp
          clear hx hUA hl0
          go_wp2_with (at_builtin; refine wpList_append_fates rfl _ _ rfl wo.heap.size _ [] rfl HO0 ⟨b, o, none⟩ _ fs rfl HNW hlp hll hbs ?_; intro g cap w' hp1 hg1)
          go_meet
          refine ⟨g, cap, rfl, by have := hp1.out; simpa using this, HUA.out.grown hg1.out (fun k hk => .inr ?_)⟩
          have hk' : some wo.heap.size = some k := hk
          obtain rfl : wo.heap.size = k := by simpa using hk'
          exact Nat.le_refl _
      case rest =>
        obtain ⟨g, c, rfl, hc⟩ := hcut
        obtain ⟨wd, hwd⟩ : ∃ wd, wd = wc := ⟨_, rfl⟩
        rw [← hwd] at hc
        rw [← hwd]
        clear hwd wc
        go_wp2_with fail
        go_loopw [12] (fun v wr => ∃ j : Nat, j ≤ k - fs.length ∧ ∃ L g c, v = .slice (some ⟨g, 0, none⟩) (fs.length + j) c ∧ Hid (L = fs ++ List.replicate j Fa.one) ∧ Hid (FatesAt wr wo.heap.size (.slice (some ⟨g, 0, none⟩) (fs.length + j) c) L ∧ Upd [] wo wr)) (fun v _ => k - sliceLen v)
        case atStart => exact ⟨0, Nat.zero_le _, fs, g, c, rfl, Lib.hid (by simp), hc⟩
        case round =>
          obtain ⟨j, hj, L, g, c, rfl, hL, hR⟩ := hrel
          have hlen : L.length = fs.length + j := by rw [hL.out]; simp
          by_cases hjk : fs.length + j < k
          · have HO1 : Hid (FatesAt wr wo.heap.size (.slice (some ⟨g, 0, none⟩) (fs.length + j) c) L) := hR.out.1
            have HU5 : Hid (Upd [] wo wr) := hR.out.2
            have HOA : Hid (∀ ob, FatesAt (wr.alloc ob) wo.heap.size (.slice (some ⟨g, 0, none⟩) (fs.length + j) c) L) := fun ob => HO1.out.alloc ob
            have HNW : Hid (∀ ob : Obj, ob = .cells #[.bool false, .int .i64 1, .int .i64 0] 51 (0, 0) → ∀ j u, ([Fa.one].flatMap faVals)[j]? = some u → (wr.alloc ob).cell? ((⟨wr.heap.size, 0, none⟩ : Addr).add j) = some u) := by
              intro ob hob j u hj
              rw [Addr.add_lit, cell_of_row _ wr.heap.size (0 + j) _ 51 (0, 0) (by rw [hob]; exact heap_alloc_new wr _)]
              rw [Nat.zero_add]; simpa [faVals, Fa.one] using hj
            have hll2 : L.length + [Fa.one].length ≤ 100000 := by rw [hlen]; simp; omega
            have HBS : Hid (wo.heap.size ≤ wr.heap.size) := HU5.out.size
            have HLEN := Lib.hid hlen
            have HLL := hL
            clear hR hlen hL hc
            go_wp2_with (at_builtin; (refine wpList_append_fates rfl _ _ rfl wo.heap.size _ L rfl (HOA.out _) ⟨wr.heap.size, 0, none⟩ 1 [Fa.one] rfl (HNW.out _ rfl) Nat.zero_lt_one hll2 (by have := HBS.out; simp; omega) ?_); intro g2 cap2 w6 hp1 hg1)
            have HFN : Hid (FatesAt w6 wo.heap.size (.slice (some ⟨g2, 0, none⟩) (fs.length + (j + 1)) cap2) (L ++ [Fa.one]) ∧ Upd [] wo w6) := by
              refine ⟨?_, (HU5.out.alloc _).grown hg1.out (fun k hk => .inr (FatesAt.ge HO1.out k hk))⟩
              have := hp1.out
              rw [HLEN.out] at this
              exact this
            exact ⟨⟨j + 1, by omega, L ++ [Fa.one], g2, cap2, by first | rfl | (rw [HLEN.out]; rfl), Lib.hid (by rw [HLL.out, List.append_assoc, ← List.replicate_succ']), HFN.out⟩, by simp [sliceLen, HLEN.out]; omega⟩
          · have HLEN := Lib.hid hlen
            have HLF : Hid (L ++ gs = LG ∧ fs.length + j + gs.length = LG.length) := by
              have e : L ++ gs = LG := by
                rw [HLG.out, hL.out]
                unfold longF
                rw [← HKE.out]
                rw [show j = k - fs.length by omega]
              exact ⟨e, by rw [← e, List.length_append, hlen]⟩
            have HR5 : Hid (FatesAt wr wo.heap.size (.slice (some ⟨g, 0, none⟩) (fs.length + j) c) L) := hR.out.1
            have HU5 : Hid (Upd [] wo wr) := hR.out.2
            obtain ⟨wi, hwi⟩ : ∃ wi : World, wi = wr := ⟨_, rfl⟩
            rw [← hwi] at HR5 HU5
            rw [← hwi]
            have hll2 : L.length + gs.length ≤ 100000 := by rw [hlen]; omega
            have hjs : j ≤ 200 := by omega
            have hcap : fs.length + j ≤ c := by rw [← hlen]; exact HR5.out.cap
            clear hR hwi wr hL hc
            go_upto_region 13 with fail
            go_cut [12] (fun v wc => ∃ g k c, v = .slice (some ⟨g, 0, none⟩) k c ∧ Hid (k = LG.length) ∧ Hid (FatesAt wc wo.heap.size (.slice (some ⟨g, 0, none⟩) k c) LG ∧ Upd [] wo wc))
            case first =>
              by_cases hl0 : gs = []
              · have HE : Hid (L = LG ∧ fs.length + j = LG.length) := by
                  have := HLF.out
                  rw [hl0, List.append_nil] at this
                  exact ⟨this.1, by simpa using this.2⟩
                subst hl0
                have HFI : Hid (FatesAt wi wo.heap.size (.slice (some ⟨g, 0, none⟩) (fs.length + j) c) LG ∧ Upd [] wo wi) := by rw [← HE.out.1]; exact ⟨HR5.out, HU5.out⟩
                cases ga with
                | none =>
                  go_wp2
                  go_meet
                  exact ⟨g, _, c, rfl, Lib.hid HE.out.2, HFI.out⟩
                | some ad =>
                  go_wp2
                  go_meet
                  exact ⟨g, _, c, rfl, Lib.hid HE.out.2, HFI.out⟩
              · obtain ⟨b, o, ha, hx⟩ := HB.out.at_ hl0
                subst ha
                have HNW : Hid (∀ j u, (gs.flatMap faVals)[j]? = some u → wi.cell? ((⟨b, o, none⟩ : Addr).add j) = some u) := (hx.upd (HW0.out.trans HU5.out) (by simp)).news
                have hlp : 0 < gs.length := List.length_pos_iff.2 hl0
                have hbs : wo.heap.size ≤ wi.heap.size := HU5.out.size
                clear hx hl0
                go_wp2_with (at_builtin; refine wpList_append_fates rfl _ _ rfl wo.heap.size _ L rfl HR5 ⟨b, o, none⟩ _ gs rfl HNW hlp hll2 hbs ?_; intro g2 cap w' hp1 hg1)
                go_meet
                refine ⟨g2, _, cap, rfl, Lib.hid HLF.out.2, ?_⟩
                have := hp1.out
                rw [HLF.out.1, HLEN.out] at this
                exact ⟨this, HU5.out.grown hg1.out (fun k hk => .inr (FatesAt.ge HR5.out k hk))⟩
            case rest =>
              obtain ⟨la, lk, lc, rfl, hlk, hc⟩ := hcut
              obtain ⟨wd, hwd⟩ : ∃ wd, wd = wc := ⟨_, rfl⟩
              rw [← hwd] at hc
              rw [← hwd]
              clear hwd wc
              have HD : Hid (Upd [] w wd) := HW0.out.trans hc.out.2
              have HAF : Hid (ArgFates wd (some ⟨la, 0, none⟩) LG) := by
                have h := hc.out.1
                rw [hlk.out] at h
                exact h.args (by have := HLGL.out; unfold maxLen; omega)
              have HLK := hlk
              clear hc hlk HLF HR5 HU5 hll2 HLEN
              go_upto_region 16 with (first | (go_at_call_of 12 (Value.slice fa fs.length fc); refine (HN.out _ HD.out).mono ?_; rintro e w6 ⟨f, rfl, hn6, hu6⟩; have HN6 := Lib.hid hn6; have HU6 := Lib.hid hu6; clear hn6 hu6) | (go_at_call_of 12 (Value.slice (some ⟨la, 0, none⟩) lk lc); refine (HN2.out _ _ _ _ HLK.out (HAF.out.upd HU6.out)).mono ?_; rintro e w7 ⟨f2, rfl, hn7, hu7⟩; have HN7 := Lib.hid hn7; have HU7 := Lib.hid hu7; clear hn7 hu7))
              have HD7 : Hid (Upd [] wd w7) := HU6.out.trans HU7.out
              have HDW7 : Hid (Upd [] w w7) := HD.out.trans HD7.out
              have HN67 : Hid (NetAt w7 wd.heap.size f (NS.new m fs)) := HN6.out.upd HU7.out (by simp)
              have HZ67 : Hid (w.heap.size ≤ wd.heap.size ∧ wd.heap.size ≤ w6.heap.size ∧ w6.heap.size ≤ w7.heap.size) := ⟨HD.out.size, HU6.out.size, HU7.out.size⟩
              go_upto_region 17 with (first | (go_at_call 25; refine (HPL.out _ _ _ HDW7.out HN67.out HZ67.out.1 (Nat.le_trans HZ67.out.2.1 HZ67.out.2.2)).mono ?_; rintro e w8 ⟨sv, G, f', rfl, hb8, hn8, ht8⟩; have HB8 := Lib.hid hb8; have HN8 := Lib.hid hn8; have HT8 := Lib.hid ht8; obtain ⟨sa, sc, hsv, -⟩ := hb8.sent.read; obtain ⟨ln, hln⟩ : ∃ ln, ln = st.bk.sent.length := ⟨_, rfl⟩; rw [← hln] at hsv; have HLN := Lib.hid hln; clear hb8 hn8 ht8 hln; subst hsv))
              generalize hW9 : w8.alloc (Obj.cells #[Value.slice sa ln sc, Value.slice (some { block := G, off := 0 }) m m] 46) = W9
              have HU9 : Hid (Upd [] w8 W9) := by rw [← hW9]; exact (Upd.refl _ _).alloc _
              have C0 : Hid (W9.cell? ⟨w8.heap.size, 0, none⟩ = some (.slice sa ln sc)) := Lib.hid (by rw [← hW9]; simp)
              have C1 : Hid (W9.cell? ⟨w8.heap.size, 1, none⟩ = some (.slice (some ⟨G, 0, none⟩) m m)) := Lib.hid (by rw [← hW9]; simp)
              have HB9 : Hid (BookR W9 w7.heap.size w8.heap.size (.slice sa ln sc) G st.bk) := HB8.out.upd HU9.out (by simp) (Nat.le_refl _)
              have HN9 : Hid (NetAt W9 wd.heap.size f' st.net) := HN8.out.upd HU9.out (by simp)
              have HR9 : Hid (Upd [] wd W9) := (play_upd (Upd.refl _ _) HD7.out HN67.out HT8.out).trans HU9.out
              have HZ9 : Hid (w7.heap.size ≤ w8.heap.size ∧ w8.heap.size ≤ W9.heap.size) := ⟨HT8.out.upd.size, HU9.out.size⟩
              have HN79 : Hid (NetAt W9 w6.heap.size f2 (NS.new m LG)) := HN7.out.upd (HT8.out.upd.trans (HU9.out.mono (by simp))) (fun k hk hm => by have := HN7.out.ge k hk; have := HN6.out.lt k hm; omega)
              clear hW9
              go_upto_region 18 with (first | (go_at_call 25; refine (HPL2.out _ _ _ _ _ _ _ HLK.out HD.out HAF.out HR9.out HN79.out HZ67.out.2.1 (Nat.le_trans HZ67.out.2.2 (Nat.le_trans HZ9.out.1 HZ9.out.2))).mono ?_; rintro e w11 ⟨sv2, G2, f2', rfl, hb11, hn11, ht11⟩; have HB11 := Lib.hid hb11; have HN11 := Lib.hid hn11; have HT11 := Lib.hid ht11; obtain ⟨sa2, sc2, hsv2, -⟩ := hb11.sent.read; obtain ⟨ln2, hln2⟩ : ∃ ln2, ln2 = st2.bk.sent.length := ⟨_, rfl⟩; rw [← hln2] at hsv2; have HLN2 := Lib.hid hln2; clear hb11 hn11 ht11 hln2; subst hsv2))
              generalize hW12 : w11.alloc (Obj.cells #[Value.slice sa2 ln2 sc2, Value.slice (some { block := G2, off := 0 }) m m] 46) = W12
              have hU12 : Upd [] w11 W12 := by rw [← hW12]; exact (Upd.refl _ _).alloc _
              have d0 : W12.cell? ⟨w11.heap.size, 0, none⟩ = some (.slice sa2 ln2 sc2) := by rw [← hW12]; simp
              have d1 : W12.cell? ⟨w11.heap.size, 1, none⟩ = some (.slice (some ⟨G2, 0, none⟩) m m) := by rw [← hW12]; simp
              have hT : Upd f2.list W9 W12 := HT11.out.upd.trans (hU12.mono (by simp))
              have hf2 : ∀ k ∈ f2.list, w6.heap.size ≤ k ∧ k < w7.heap.size := fun k hk => ⟨HN7.out.ge k hk, HN7.out.lt k hk⟩
              have c0 := hT.cell C0.out (fun hm => by have h1 : w6.heap.size ≤ w8.heap.size ∧ w8.heap.size < w7.heap.size := hf2 _ hm; have := HZ9.out; omega)
              have c1 := hT.cell C1.out (fun hm => by have h1 : w6.heap.size ≤ w8.heap.size ∧ w8.heap.size < w7.heap.size := hf2 _ hm; have := HZ9.out; omega)
              have HBA : Hid (BookR W12 w7.heap.size w8.heap.size (.slice sa ln sc) G st.bk) := HB9.out.upd hT (fun j hj _ hm => by have := hf2 _ hm; omega) HZ9.out.2
              have HBB : Hid (BookR W12 W9.heap.size w11.heap.size (.slice sa2 ln2 sc2) G2 st2.bk) := HB11.out.upd hU12 (by simp) (Nat.le_refl _)
              have HNA : Hid (NetAt W12 wd.heap.size f' st.net) := HN9.out.upd hT (fun k hk hm => by
                have h2 := hf2 _ hm
                rcases HT8.out.sub k hk with h | h
                · have := HN6.out.lt k h; omega
                · omega)
              have HNB : Hid (NetAt W12 w6.heap.size f2' st2.net) := HN11.out.upd hU12 (by simp)
              have HWF : Hid (Upd [] w W12) := (play_upd (HD.out.trans HU6.out) (HD.out.trans HR9.out) HN79.out HT11.out).trans hU12
              have HSQ : Hid (st2.bk = st.bk) := HTW.out.bk
              obtain ⟨cc, hcc⟩ : ∃ cc, cc = st.net.count := ⟨_, rfl⟩
              have HWT1 : Hid (∀ W, Upd [] W12 W → Calls Try.prog 21 #[.pointer (some ⟨f.B, 0, none⟩)] W fun e w' => e = .returned (.int .i64 cc) ∧ Upd [] W w') := by
                intro W hW
                have := waiting_any (HNA.out.upd hW (by simp))
                rw [HT8.out.B, ← hcc] at this
                exact this.mono fun e w' h => ⟨h.1, by rw [← h.2]; exact Upd.refl _ _⟩
              have HWT2 : Hid (∀ W, Upd [] W12 W → Calls Try.prog 21 #[.pointer (some ⟨f2.B, 0, none⟩)] W fun e w' => e = .returned (.int .i64 cc) ∧ Upd [] W w') := by
                intro W hW
                have := waiting_any (HNB.out.upd hW (by simp))
                rw [HT11.out.B, HTW.out.count, ← hcc] at this
                exact this.mono fun e w' h => ⟨h.1, by rw [← h.2]; exact Upd.refl _ _⟩
              have CC0 := Lib.hid c0
              have CC1 := Lib.hid c1
              have DD0 := Lib.hid d0
              have DD1 := Lib.hid d1
              clear hcc hW12 hU12 hT hf2 c0 c1 d0 d1
              go_wp2_with fail
              go_loopw [17] (fun i wr => ∃ q : Nat, q ≤ m ∧ i = .int .i64 q ∧ Hid (Upd [] W12 wr)) (fun i _ => m - (intOf i).toNat)
              case atStart => exact ⟨0, Nat.zero_le _, rfl, Lib.hid (Upd.refl _ _)⟩
              case round =>
                obtain ⟨q, hq, rfl, hu⟩ := hrel
                by_cases hqm : q < m
                · have hjg : q < st.bk.got.length := by rw [HI.out.got]; exact hqm
                  obtain ⟨v, hv, hp, -⟩ := HBA.out.row q _ (List.getElem?_eq_getElem hjg)
                  obtain ⟨v2, hv2, hp2, -⟩ := HBB.out.row q _ (by rw [HSQ.out]; exact List.getElem?_eq_getElem hjg)
                  have hgl := HOK.out.gl _ (List.getElem_mem hjg)
                  have HPR := Lib.hid hp.read
                  have HPR2 := Lib.hid hp2.read
                  obtain ⟨va, vc, hvv, -⟩ := hp.read
                  obtain ⟨va2, vc2, hvv2, -⟩ := hp2.read
                  obtain ⟨gn, hgn⟩ : ∃ gn, gn = (st.bk.got[q]).length := ⟨_, rfl⟩
                  rw [← hgn] at hvv hvv2 hgl
                  subst hvv hvv2
                  have HC1 : Hid (∀ W, Upd [] W12 W → Calls Try.prog 18 #[.slice va gn vc, .slice va2 gn vc2] W fun e w' => e = .returned (.bool true) ∧ Upd [] W w') := fun W hW => by
                    have := packets_any (HPR.out.upd hW) (HPR2.out.upd hW) (by omega)
                    rwa [decide_eq_true rfl] at this
                  have b0 := hu.out.cell CC0.out (by simp)
                  have b1 := hu.out.cell CC1.out (by simp)
                  have b2 := hu.out.cell hv (by simp)
                  have e0 := hu.out.cell DD0.out (by simp)
                  have e1 := hu.out.cell DD1.out (by simp)
                  have e2 := hu.out.cell hv2 (by simp)
                  have r0 := fun p : After wr => p.cell b0
                  have r1 := fun p : After wr => p.cell b1
                  have r2 := fun p : After wr => p.cell b2
                  have q0 := fun p : After wr => p.cell e0
                  have q1 := fun p : After wr => p.cell e1
                  have q2 := fun p : After wr => p.cell e2
                  have HUp : Hid (∀ p : After wr, Upd [] W12 p.w) := fun p => hu.out.trans p.upd
                  clear b0 b1 b2 e0 e1 e2 hv hv2 hp hp2 hgn hgl
                  go_wp2_with fail
                  refine region_all (by kernel_rfl) (by kernel_rfl) ?_
                  repeat (go_big_quiet_step ((go_at_call_of 18 (Value.slice va gn vc); exact After.call _ (HC1.out _ (HUp.out _)))))
                  refine wpQuiet_nil ?_
                  rintro _ ⟨p, rfl⟩
                  go_wp2
                  exact ⟨⟨q + 1, by omega, by go_num, HUp.out p⟩, by simp [intOf]; omega⟩
                · have hcb : ((cc : Int) == (cc : Int)) = true := by simp
                  go_wp2_with (first | (go_at_call_of 21 (Value.pointer (some ⟨f.B, 0, none⟩)); refine (HWT1.out _ hu.out).mono ?_; rintro e w13 ⟨rfl, hu13⟩; have HU13 : Hid (Upd [] W12 w13) := hu.out.trans hu13; clear hu13) | (go_at_call_of 21 (Value.pointer (some ⟨f2.B, 0, none⟩)); refine (HWT2.out _ HU13.out).mono ?_; rintro e w14 ⟨rfl, hu14⟩; have HU14 : Hid (Upd [] W12 w14) := HU13.out.trans hu14; clear hu14))
                  go_ret
                  exact ⟨rfl, HWF.out.trans HU14.out⟩
end Go.Proofs.Ytlmfgdibodpniaa
