/- DiskPrefix, walked. -/
import Derived.Test.YtcihncgajkogkaaPlain3
import Derived.Test.YtcihncgajkogkaaClass
namespace Go.Proofs.Ytcihncgajkogkaa
open Go.RowKit

def act6 (w : World) (b : Nat) (y : ActR) : World :=
  (((((w.setCell ⟨b, 0, none⟩ (.int .i64 y.kind)).setCell ⟨b, 1, none⟩ (.int .i64 y.sector)).setCell ⟨b, 2, none⟩ (.int .i64 y.bytes)).setCell ⟨b, 3, none⟩ (.string y.text)).setCell ⟨b, 4, none⟩ (.bool y.odd)).setCell ⟨b, 5, none⟩ (.int .i64 y.after)

theorem act6_heap {w : World} {b : Nat} {z : ActR} (h : w.heap[b]? = some (actObj z)) (y : ActR) : (act6 w b y).heap[b]? = some (actObj y) :=
  heap_setCell_self (heap_setCell_self (heap_setCell_self (heap_setCell_self (heap_setCell_self (heap_setCell_self h)))))
theorem act6_live {w0 w : World} {B b : Nat} {s : DS} (h : LiveK w0 w B s [b]) (hb : w0.heap.size ≤ b) (y : ActR) : LiveK w0 (act6 w b y) B s [b] :=
  (((((h.store (p := ⟨b, 0, none⟩) (by simp) hb _).store (p := ⟨b, 1, none⟩) (by simp) hb _).store (p := ⟨b, 2, none⟩) (by simp) hb _).store (p := ⟨b, 3, none⟩) (by simp) hb _).store (p := ⟨b, 4, none⟩) (by simp) hb _).store (p := ⟨b, 5, none⟩) (by simp) hb _

theorem actObj_cells {w : World} {b : Nat} {z : ActR} (h : w.heap[b]? = some (actObj z)) : ActAt w b 0 z ∧ ∀ i, w.frozen? ⟨b, i, none⟩ = false := by
  refine ⟨⟨?_, ?_, ?_, ?_, ?_, ?_⟩, fun i => by simp [World.frozen?, h, actObj]⟩
  · rw [cell_of_row w b 0 _ 32 (0, 0) h]; rfl
  · rw [cell_of_row w b _ _ 32 (0, 0) h]; rfl
  · rw [cell_of_row w b _ _ 32 (0, 0) h]; rfl
  · rw [cell_of_row w b _ _ 32 (0, 0) h]; rfl
  · rw [cell_of_row w b _ _ 32 (0, 0) h]; rfl
  · rw [cell_of_row w b _ _ 32 (0, 0) h]; rfl

theorem strs_set {w : World} {base g n cap : Nat} {ss : List ByteArray} (h : StrsAt w base (.slice (some ⟨g, 0, none⟩) n cap) ss) (j : Nat) (hj : j < ss.length) (x : ByteArray) : StrsAt (w.setCell ⟨g, j, none⟩ (.string x)) base (.slice (some ⟨g, 0, none⟩) n cap) (ss.set j x) := by
  obtain ⟨h1, h2⟩ := h
  rcases h2 with ⟨h2, _⟩ | ⟨g', cp, cur, h2, h3, h4, h5, h6, h7, h8⟩
  · simp at h2
  · obtain ⟨rfl, rfl, rfl⟩ : g = g' ∧ n = ss.length ∧ cap = cp := by simpa using h2
    unfold StrsAt
    rw [List.length_set]
    refine ⟨by simp [strVals], .inr ⟨g, cap, cur.setIfInBounds j (.string x), rfl, h3, heap_setCell_self h4, h5, h6, by simpa using h7, ?_⟩⟩
    rw [Array.toList_setIfInBounds, List.take_set, h8]
    simp [strVals, List.map_set]

theorem run_str_pre (s : ByteArray) (b : Nat) (h : b ≤ s.size) (w : World) : (Instr.slice 9 (.string s) none (some (.int .i64 b)) none).run Try.prog w = .ok (.string (s.extract 0 b)) w := by
  have h2 : (b : Int) ≤ (s.size : Int) := by omega
  simp [Instr.slice, run_underlying Try.underlying9, Instr.sliceBounds, Instr.sliceBound, asIntOf]
  intro hh; omega
theorem run_str_from (s : ByteArray) (b : Nat) (h : b ≤ s.size) (w : World) : (Instr.slice 9 (.string s) (some (.int .i64 b)) none none).run Try.prog w = .ok (.string (s.extract b s.size)) w := by
  have h2 : (b : Int) ≤ (s.size : Int) := by omega
  simp [Instr.slice, run_underlying Try.underlying9, Instr.sliceBounds, Instr.sliceBound, asIntOf]
  intro hh; omega

set_option maxRecDepth 100000 in
set_option maxHeartbeats 8000000 in
theorem prefix_main (w : World) (x x3 x4 : Int) (h0 : 0 ≤ x) (h1 : x ≤ 255) (h30 : 0 ≤ x3) (h31 : x3 ≤ 255) (h40 : 0 ≤ x4) (h41 : x4 ≤ 255) (a1 a2 : Option Addr) (c1 c2 : Nat) (L1 L2 : List ActR) (A1 : ArgActs w a1 L1) (A2 : ArgActs w a2 L2)
    (k1 : okB L1 = true) (k2 : okB L2 = true) :
    Calls Try.prog 4 #[.int .u8 x, .slice a1 L1.length c1, .slice a2 L2.length c2, .int .u8 x3, .int .u8 x4] w fun e w' => e = .returned (.bool true) ∧ Upd [] w w' := by
  have hl1 := A1.len
  have hl2 := A2.len
  unfold maxLen at hl1 hl2
  have HO1 : Hid (∀ w', Upd [] w w' → Calls Try.prog 7 #[.slice a1 L1.length c1] w' fun e w'' => e = .returned (.bool true) ∧ w' = w'') := by
    intro w' hu; have := ok_gen a1 L1 c1 w' (A1.upd hu); rwa [k1] at this
  have HO2 : Hid (∀ w', Upd [] w w' → Calls Try.prog 7 #[.slice a2 L2.length c2] w' fun e w'' => e = .returned (.bool true) ∧ w' = w'') := by
    intro w' hu; have := ok_gen a2 L2 c2 w' (A2.upd hu); rwa [k2] at this
  obtain ⟨s1, K1⟩ := okB_short k1
  obtain ⟨s2, K2⟩ := okB_short k2
  have KK1 := Lib.hid K1
  have KK2 := Lib.hid K2
  clear K1 K2 k1 k2
  obtain ⟨n, hn⟩ : ∃ n : Nat, 1 + x % 12 = n := ⟨(1 + x % 12).toNat, by omega⟩
  have hn1 : 1 ≤ n := by omega
  have hn2 : n ≤ 12 := by omega
  obtain ⟨m, hm⟩ : ∃ m : Nat, x3 % 61 = m := ⟨(x3 % 61).toNat, by omega⟩
  obtain ⟨tb, htb⟩ : ∃ tb : Nat, x4 % 33 = tb := ⟨(x4 % 33).toNat, by omega⟩
  have hm60 : m ≤ 60 := by omega
  have htb32 : tb ≤ 32 := by omega
  have HN := Lib.hid hn
  have HA2 := Lib.hid A2
  have HA1 := Lib.hid A1
  clear hn
  go_enter Try.func4, Try.ntmps4
  go_wp2_with fail
  refine (head_any w).mono ?_
  rintro e w1 ⟨rfl, hu1⟩
  have HU1 := Lib.hid hu1
  clear hu1
  go_wp2_with fail
  refine (HO1.out w1 HU1.out).mono ?_
  rintro e w2 ⟨rfl, rfl⟩
  go_wp2_with fail
  refine (HO2.out w1 HU1.out).mono ?_
  rintro e w2 ⟨rfl, rfl⟩
  go_wp2_with fail
  have c := size_any x w1 h0 h1
  rw [HN.out] at c
  refine c.mono ?_
  rintro e w2 ⟨rfl, rfl⟩
  clear c
  go_wp2_with fail
  rw [hm, htb]
  refine (live_new w w1 HU1.out n hn1 (by omega)).mono ?_
  rintro e w2 ⟨B, rfl, hl⟩
  have HL2 := Lib.hid hl
  clear hl HU1 HO1 HO2 h0 h1 hm htb h30 h31 h40 h41
  go_wp2
  go_loopw [16] (fun i wr => ∃ k : Nat, k ≤ L1.length ∧ i = .int .i64 k ∧ Live w wr B ((DS.new n).acts (L1.take k))) (fun i _ => L1.length - (intOf i).toNat)
  case atStart => exact ⟨0, Nat.zero_le _, rfl, HL2.out⟩
  case round =>
    obtain ⟨k, hk, rfl, hl⟩ := hrel
    have HL := Lib.hid hl
    clear hl
    by_cases hlt : k < L1.length
    · obtain ⟨b, o, ha, hx⟩ := A1.lies (by omega)
      subst ha
      have hat := ((hx.upd HL.out.upd (by simp)).at_ k hlt)
      have hwf := hx.wf k hlt
      have htx := KK1.out _ (List.getElem_mem hlt)
      have hstep := acts_take (DS.new n) L1 k hlt
      obtain ⟨y, hy⟩ : ∃ y, y = L1[k] := ⟨_, rfl⟩
      rw [← hy] at hat hwf htx hstep
      have HST := Lib.hid hstep
      have hq : ((DS.new n).acts (L1.take k)).q.length < 1000000 := by
        have := acts_q (DS.new n) (L1.take k)
        rw [List.length_take] at this
        simp only [DS.new, List.length_nil] at this ⊢
        omega
      have HC := Lib.hid (live_do HL.out hq y htx hwf.2)
      obtain ⟨d0, d1, d2, d3, d4, d5⟩ := hat
      clear hx hstep hy hwf htx hq
      go_wp2_with fail
      refine HC.out.mono ?_
      rintro e w3 ⟨⟨t, m', rfl⟩, hl⟩
      rw [← HST.out] at hl
      have HL3 := Lib.hid hl
      clear hl
      go_wp2
      go_roundw
      case rel => exact ⟨k + 1, by omega, by go_num, HL3.out⟩
      case measure => simp [intOf]; omega
    · have e : k = L1.length := by omega
      have HL3 : Hid (Live w wr B ((DS.new n).acts L1)) := by
        have h2 := HL.out
        rw [e, List.take_length] at h2
        exact h2
      clear HL e HL2
      obtain ⟨S, hS⟩ : ∃ S, S = (DS.new n).acts L1 := ⟨_, rfl⟩
      have hSn : S.n = n := by rw [hS, acts_n]; rfl
      have hSq : S.q.length ≤ 60 := by
        have := acts_q (DS.new n) L1
        rw [hS]
        simp only [DS.new, List.length_nil] at this ⊢
        omega
      rw [← hS] at HL3
      have HS0 := Lib.hid hS
      clear hS
      go_wp2_with fail
      refine (live_start HL3.out).mono ?_
      rintro e w4 ⟨rfl, hl⟩
      have HL4 := Lib.hid hl
      clear hl HL3
      go_wp2_with fail
      have c := live_sync HL4.out (by simp only [DS.start]; omega)
      rw [start_sync] at c
      refine c.mono ?_
      rintro e w5 ⟨rfl, hl⟩
      have HL5 : Hid (Live w w5 B S.synced) := hl
      clear hl HL4 c
      have HST : Hid (S.synced.n = n) := hSn
      have hge : w.heap.size ≤ w5.heap.size := HL5.out.upd.size
      have HW0 : Hid (LiveK w (w5.alloc (actObj dfltA)) B (S.synced.withV []) [w5.heap.size]) := by
        refine HL5.out.withK ((Upd.refl [] w5).alloc _) _ fun k hk => ?_
        obtain rfl : k = w5.heap.size := by simpa using hk
        exact ⟨Nat.le_refl _, by simp⟩
      have HG0 : Hid ((w5.alloc (actObj dfltA)).heap[w5.heap.size]? = some (actObj (nextA n L2 0 m))) := heap_alloc_new _ _
      obtain ⟨bn, hbn⟩ : ∃ bn, bn = w5.heap.size := ⟨_, rfl⟩
      go_wp2
      have hwo : w5.alloc (Obj.cells #[Value.int IntKind.i64 0, Value.int IntKind.i64 (-1), Value.int IntKind.i64 0, Value.string { data := #[] }, Value.bool false, Value.int IntKind.i64 0] 32) = w5.alloc (actObj dfltA) := rfl
      rw [hwo]
      rw [← hbn] at HW0 HG0 hge ⊢
      clear hwo HL5
      generalize w5.alloc (actObj dfltA) = w7 at *
      clear hbn
      go_loopw [19, 17] (fun i d wr => ∃ k : Nat, k ≤ L2.length ∧ i = .int .i64 k ∧ d = .int .i64 (goodA n L2 k).length ∧ LiveK w wr B (S.synced.withV (goodA n L2 k)) [bn] ∧ Hid (wr.heap[bn]? = some (actObj (nextA n L2 k m)))) (fun i _ _ => L2.length - (intOf i).toNat)
      case atStart => exact ⟨0, Nat.zero_le _, rfl, rfl, HW0.out, HG0.out⟩
      case round =>
        obtain ⟨k', hk', rfl, rfl, hl, G⟩ := hrel
        have HL := Lib.hid hl
        clear hl HW0 HG0
        have hgl := goodA_len n L2 k'
        by_cases hlt2 : k' < L2.length
        · obtain ⟨b, o, ha, hx⟩ := HA2.out.lies (by omega)
          subst ha
          have HX : Hid (∀ w', Upd [] w w' → ActAt w' b (o + k' * 6) L2[k']) := fun w' hu => (hx.upd hu (by simp)).at_ k' hlt2
          have htx := KK2.out _ (List.getElem_mem hlt2)
          have HG := Lib.hid (goodA_step n L2 k' hlt2)
          obtain ⟨y, hy⟩ : ∃ y, y = L2[k'] := ⟨_, rfl⟩
          rw [← hy] at HX htx HG
          have hsz : y.txt.size ≤ 100 := size_txt y htx
          clear hx hy
          have HNN : Hid (nextA n L2 k' m = ((goodA n L2 k')[m]?).getD dfltA) := rfl
          obtain ⟨V, hV⟩ : ∃ V, V = goodA n L2 k' := ⟨_, rfl⟩
          have HV := Lib.hid hV
          rw [← hV] at HG HL HNN hgl ⊢
          clear hV
          obtain ⟨d0, d1, d2, d3, d4, d5⟩ := HX.out wr HL.out.live.upd
          have hqq : (S.synced.withV V).q.length < 1000000 := by rw [withV_q]; omega
          by_cases hv : validA n y = true
          · have HC : Hid (∀ w', LiveK w w' B (S.synced.withV V) [bn] → Calls Try.prog 14 #[.pointer (some ⟨B, 0, none⟩), .int .i64 y.sector, .string (txtOf y.odd y.text)] w' fun e w'' => e = .returned (.int .i64 0) ∧ LiveK w w'' B (S.synced.withV (V ++ [y])) [bn] ∧ KeptK [bn] w' w'') := by
              intro w' hl
              have c := liveK_write hl hqq y.sector y.txt (Nat.le_trans hsz (by decide))
              rwa [withV_write S.synced rfl rfl V y (by rw [HST.out]; exact hv)] at c
            have HG2 : Hid (goodA n L2 (k' + 1) = V ++ [y]) := by unfold Hid; rw [HG.out, if_pos hv]
            clear hv HG
            by_cases hdm : V.length = m
            · have HNX : Hid (nextA n L2 (k' + 1) m = y) := by
                unfold Hid nextA
                rw [HG2.out, ← hdm, List.getElem?_append_right (Nat.le_refl _)]
                simp
              have hbe : ((V.length : Int) == (m : Int)) = true := by rw [beq_iff_eq]; omega
              have hbn : (V.length == m) = true := by rw [beq_iff_eq]; omega
              clear hdm
              go_wp2_with fail
              go_region_with (first | (go_at_call 15; refine (text_raw _ _ _ _ _ _ _ htx).mono ?_; rintro e w8 ⟨rfl, hu8⟩; have HU8 := Lib.hid (((Upd.refl [] wr).drew).trans hu8); have e1 := HU8.out.cell d1 (by simp); clear hu8) | (go_at_call 14; refine (HC.out _ (HL.out.keep HU8.out).1).mono ?_; rintro e w9 ⟨rfl, hl9, hk9⟩; have HL9 := Lib.hid hl9; have HK9 := Lib.hid hk9; clear hl9 hk9))
              all_goals
                have K8 := (HL.out.keep HU8.out).2
                have G' : Hid (w9.heap[bn]? = some (actObj (nextA n L2 k' m))) := (HK9.out bn (by simp)).trans ((K8 bn (by simp)).trans G.out)
                obtain ⟨⟨z0, z1, z2, z3, z4, z5⟩, zf⟩ := actObj_cells G'.out
                obtain ⟨f0, f1, f2, f3, f4, f5⟩ := HX.out _ HL9.out.live.upd
                obtain ⟨q0, hq0⟩ : ∃ q, w9.cell? ⟨bn, 0, none⟩ = some q := ⟨_, z0⟩
                obtain ⟨q1, hq1⟩ : ∃ q, w9.cell? ⟨bn, 1, none⟩ = some q := ⟨_, z1⟩
                obtain ⟨q2, hq2⟩ : ∃ q, w9.cell? ⟨bn, 2, none⟩ = some q := ⟨_, z2⟩
                obtain ⟨q3, hq3⟩ : ∃ q, w9.cell? ⟨bn, 3, none⟩ = some q := ⟨_, z3⟩
                obtain ⟨q4, hq4⟩ : ∃ q, w9.cell? ⟨bn, 4, none⟩ = some q := ⟨_, z4⟩
                obtain ⟨q5, hq5⟩ : ∃ q, w9.cell? ⟨bn, 5, none⟩ = some q := ⟨_, z5⟩
                have HF : Hid (LiveK w (act6 w9 bn y) B (S.synced.withV (V ++ [y])) [bn] ∧ (act6 w9 bn y).heap[bn]? = some (actObj y)) := ⟨act6_live HL9.out hge y, act6_heap G'.out y⟩
                clear K8 d0 d1 d2 d3 d4 d5 HU8 HK9 z0 z1 z2 z3 z4 z5
                go_wp2
                go_roundw
                case rel => exact ⟨k' + 1, by omega, by go_num, by rw [HG2.out]; simp, by rw [HG2.out]; exact HF.out.1, by rw [HNX.out]; exact HF.out.2⟩
                case measure => simp [intOf]; omega
            · have HNX : Hid (nextA n L2 (k' + 1) m = nextA n L2 k' m) := by
                unfold Hid
                rw [HNN.out]
                unfold nextA
                rw [HG2.out]
                by_cases h : m < V.length
                · rw [List.getElem?_append_left h]
                · rw [List.getElem?_eq_none (by simp; omega), List.getElem?_eq_none (by omega)]
              have hbe : ((V.length : Int) == (m : Int)) = false := by rw [beq_eq_false_iff_ne]; omega
              have hbn : (V.length == m) = false := by rw [beq_eq_false_iff_ne]; omega
              clear hdm
              go_wp2_with fail
              go_region_with (first | (go_at_call 15; refine (text_raw _ _ _ _ _ _ _ htx).mono ?_; rintro e w8 ⟨rfl, hu8⟩; have HU8 := Lib.hid (((Upd.refl [] wr).drew).trans hu8); have e1 := HU8.out.cell d1 (by simp); clear hu8) | (go_at_call 14; refine (HC.out _ (HL.out.keep HU8.out).1).mono ?_; rintro e w9 ⟨rfl, hl9, hk9⟩; have HL9 := Lib.hid hl9; have HK9 := Lib.hid hk9; clear hl9 hk9))
              all_goals
                have K8 := (HL.out.keep HU8.out).2
                have G' : Hid (w9.heap[bn]? = some (actObj (nextA n L2 k' m))) := (HK9.out bn (by simp)).trans ((K8 bn (by simp)).trans G.out)
                clear K8 d0 d1 d2 d3 d4 d5 HU8 HK9
                go_wp2
                go_roundw
                case rel => exact ⟨k' + 1, by omega, by go_num, by rw [HG2.out]; simp, by rw [HG2.out]; exact HL9.out, by rw [HNX.out]; exact G'.out⟩
                case measure => simp [intOf]; omega
          · have HC : Hid (∀ w', LiveK w w' B (S.synced.withV V) [bn] → Calls Try.prog 14 #[.pointer (some ⟨B, 0, none⟩), .int .i64 y.sector, .string (txtOf y.odd y.text)] w' fun e w'' => e = .returned (.int .i64 1) ∧ LiveK w w'' B (S.synced.withV V) [bn] ∧ KeptK [bn] w' w'') := by
              intro w' hl
              have c := liveK_write hl hqq y.sector y.txt (Nat.le_trans hsz (by decide))
              rwa [withV_bad S.synced rfl V y (by rw [HST.out]; exact hv)] at c
            have HG2 : Hid (goodA n L2 (k' + 1) = V) := by unfold Hid; rw [HG.out, if_neg hv, List.append_nil]
            have HNX : Hid (nextA n L2 (k' + 1) m = nextA n L2 k' m) := by unfold Hid; rw [HNN.out]; unfold nextA; rw [HG2.out]
            clear hv HG
            go_wp2_with fail
            go_region_with (first | (go_at_call 15; refine (text_raw _ _ _ _ _ _ _ htx).mono ?_; rintro e w8 ⟨rfl, hu8⟩; have HU8 := Lib.hid (((Upd.refl [] wr).drew).trans hu8); have e1 := HU8.out.cell d1 (by simp); clear hu8) | (go_at_call 14; refine (HC.out _ (HL.out.keep HU8.out).1).mono ?_; rintro e w9 ⟨rfl, hl9, hk9⟩; have HL9 := Lib.hid hl9; have HK9 := Lib.hid hk9; clear hl9 hk9))
            all_goals
              have K8 := (HL.out.keep HU8.out).2
              have G' : Hid (w9.heap[bn]? = some (actObj (nextA n L2 k' m))) := (HK9.out bn (by simp)).trans ((K8 bn (by simp)).trans G.out)
              clear K8 d0 d1 d2 d3 d4 d5 HU8 HK9
              go_wp2
              go_roundw
              case rel => exact ⟨k' + 1, by omega, by go_num, by rw [HG2.out], by rw [HG2.out]; exact HL9.out, by rw [HNX.out]; exact G'.out⟩
              case measure => simp [intOf]; omega
        · have e : k' = L2.length := by omega
          go_wp2_with fail
          refine (liveK_fail HL.out (by rw [withV_q]; omega) m tb).mono ?_
          rintro e w8 ⟨rfl, hl8, hk8⟩
          have HL8 := Lib.hid hl8
          have HK8 := Lib.hid hk8
          clear hl8 hk8
          go_wp2_with fail
          refine (liveK_start HL8.out).mono ?_
          rintro e w9 ⟨rfl, hl9, hk9⟩
          have HL9 := Lib.hid hl9
          have HK9 := Lib.hid (fun k hk => (hk9 k hk).trans (HK8.out k hk))
          clear hl9 hk9 HK8 HL8
          go_wp2_with fail
          have c := live_contents' HL9.out.live (by have := fail_q (S.synced.withV (goodA n L2 k')) m tb; rw [withV_q] at this; simp only [DS.start]; omega) rfl
          have hn9 : ((S.synced.withV (goodA n L2 k')).fail m tb).start.n = n := by
            unfold DS.fail DS.start
            split <;> exact hSn
          rw [hn9] at c
          refine c.mono ?_
          rintro e w10 ⟨g3, cp3, rfl, hg3, hg3', hs3, hu10⟩
          have HS3 := Lib.hid hs3
          have HU10 := Lib.hid hu10
          have HU : Hid (Upd [] w w10) := HL9.out.live.upd.trans hu10
          clear c hs3 hu10
          have HP := Lib.hid (prefix_any w10 n hn1 hn2 a1 a2 c1 c2 L1 L2 (HA1.out.upd HU.out) (HA2.out.upd HU.out) s1 s2 KK1.out KK2.out m)
          go_wp2_with fail
          refine HP.out.mono ?_
          rintro e w11 ⟨g4, cp4, rfl, hg4, hg4', hs4, hu11, hwf4⟩
          have HS4 := Lib.hid hs4
          have HU11 := Lib.hid hu11
          have HV : Hid (goodA n L2 k' = L2.filter (validA n)) := by unfold Hid goodA; rw [e, List.take_length]
          have HLAW := Lib.hid (prefix_law S.synced (L2.filter (validA n)) m tb (by rw [← HV.out]; exact HL.out.live.wf) (by have := hwf4; rw [← HS0.out] at this; exact this) rfl htb32)
          have HSS : Hid (StrsAt w11 w.heap.size (.slice (some ⟨g3, 0, none⟩) n cp3) ((S.synced.withV (L2.filter (validA n))).fail m tb).start.all) := by
            have h1 := HS3.out
            rw [HV.out] at h1
            obtain ⟨q1, q2⟩ := h1
            refine ⟨q1, ?_⟩
            rcases q2 with q2 | ⟨x1, x2, x3, x4, x5, x6, x7⟩
            · exact .inl q2
            · refine .inr ⟨x1, x2, x3, x4, Nat.le_trans HL9.out.live.upd.size x5, ?_, x7⟩
              obtain ⟨rfl, -, -⟩ : g3 = x1 ∧ _ ∧ _ := by simpa using x4
              rw [hu11.block g3 hg3' (by simp)]
              exact x6
          have HSW : Hid (StrsAt w11 w.heap.size (.slice (some ⟨g4, 0, none⟩) n cp4) (S.synced.withV ((L2.filter (validA n)).take m)).all) := by
            have h1 := hs4
            rw [← HS0.out] at h1
            obtain ⟨q1, q2⟩ := h1
            refine ⟨q1, ?_⟩
            rcases q2 with q2 | ⟨x1, x2, x3, x4, x5, x6, x7⟩
            · exact .inl q2
            · exact .inr ⟨x1, x2, x3, x4, Nat.le_trans HU.out.size x5, x6, x7⟩
          have HGN : Hid (w11.heap[bn]? = some (actObj (nextA n L2 k' m))) := by
            have hk := (HL9.out.keep (HU10.out.trans hu11)).2 bn (by simp)
            exact hk.trans ((HK9.out bn (by simp)).trans G.out)
          have hn13 : ((S.synced.withV (L2.filter (validA n))).fail m tb).start.all.length = n := by
            rw [all_len]
            unfold DS.fail DS.start
            split <;> exact hSn
          have HL13 := Lib.hid hn13
          have HWF : Hid (S.synced.withV ((L2.filter (validA n)).take m)).Wf := by have := hwf4; rw [← HS0.out] at this; exact this
          have HU1 : Hid (Upd [] w w11) := HU.out.trans hu11
          have hg34 : g3 ≠ g4 := by omega
          clear hs4 hu11 hwf4 HP HS3 HS4 hn9 HU10 HK9 HL9 HL hn13
          cases hv : (L2.filter (validA n))[m]? with
          | none =>
            have HNX : nextA n L2 k' m = dfltA := by unfold nextA; rw [HV.out, hv]; rfl
            have hc1 := (actObj_cells HGN.out).1.c1
            rw [HNX] at hc1
            have hl := HLAW.out
            rw [hv] at hl
            have HC : Hid (Calls Try.prog 18 #[.slice (some ⟨g3, 0, none⟩) n cp3, .slice (some ⟨g4, 0, none⟩) n cp4] w11 fun e w' => e = .returned (.bool true) ∧ Upd [] w11 w') := by
              have c := same_any w.heap.size _ _ _ _ w11 HSS.out HSW.out (by rw [HL13.out]; omega)
              rwa [decide_eq_true hl] at c
            have hc1' : w11.cell? ⟨bn, 1, none⟩ = some (.int .i64 (-1)) := hc1
            clear hv HNX hc1 hl e
            go_wp2_with fail
            refine HC.out.mono ?_
            rintro e w12 ⟨rfl, hu12⟩
            have HU12 := Lib.hid (HU1.out.trans hu12)
            clear hu12
            go_wp2
            go_ret
            exact ⟨rfl, HU12.out⟩
          | some y =>
            have hym := List.mem_of_getElem? hv
            have hval := (List.mem_filter.1 hym)
            have htx := KK2.out _ hval.1
            obtain ⟨v1, v2, v3⟩ := (validA_iff _ _).1 hval.2
            obtain ⟨j, hj⟩ : ∃ j : Nat, y.sector = j := ⟨y.sector.toNat, by omega⟩
            have hjn : j < n := by omega
            have HNX : nextA n L2 k' m = y := by unfold nextA; rw [HV.out, hv]; rfl
            have hl := HLAW.out
            rw [hv] at hl
            simp only at hl
            have hjt : y.sector.toNat = j := by omega
            rw [hjt] at hl
            have hg := HGN.out
            rw [HNX] at hg
            have HG := Lib.hid hg
            obtain ⟨⟨d0, d1, d2, d3, d4, d5⟩, df⟩ := actObj_cells hg
            rw [hj] at d1
            have l4 : j < (S.synced.withV ((L2.filter (validA n)).take m)).all.length := by rw [all_len]; show j < S.n; omega
            have hod := strs_cell HSW.out rfl j l4
            rw [all_get] at hod
            have hod32 : ((S.synced.withV ((L2.filter (validA n)).take m)).get j).size = 32 := get_size _ HWF.out j (show j < S.n by omega)
            obtain ⟨od, hode⟩ : ∃ od, od = (S.synced.withV ((L2.filter (validA n)).take m)).get j := ⟨_, rfl⟩
            rw [← hode] at hod hod32 hl
            have HOD := Lib.hid hode
            have HLX := Lib.hid hl
            have b1 : tb ≤ od.size := by omega
            have b2 : tb ≤ (txtOf y.odd y.text).size := by have : (txtOf y.odd y.text).size = 32 := v3; omega
            have HJ := Lib.hid hj
            clear hv HNX hl e hg hode hod32 hjt hj hym hval v1 v2 v3
            have hzf : ∀ i, w11.frozen? ⟨g4, i, none⟩ = false := by
              intro i
              rcases HSW.out.2 with ⟨h1, _⟩ | ⟨x1, x2, x3, x4, x5, x6, x7⟩
              · simp at h1
              · obtain ⟨rfl, -, -⟩ : g4 = x1 ∧ _ ∧ _ := by simpa using x4
                simp [World.frozen?, x6]
            clear df d0 d2
            go_wp2_with fail
            have d0 := (actObj_cells HG.out).1.c0
            have d2 := (actObj_cells HG.out).1.c2
            have hsl1 := run_str_pre (txtOf y.odd y.text) tb b2
            have hsl2 := run_str_from od tb b1
            obtain ⟨p1, hp1⟩ : ∃ p1, p1 = (txtOf y.odd y.text).extract 0 tb := ⟨_, rfl⟩
            obtain ⟨p2, hp2⟩ : ∃ p2, p2 = od.extract tb od.size := ⟨_, rfl⟩
            have hno : ¬ (9223372036854775807 < p1.size + p2.size) := by rw [hp1, hp2, ByteArray.size_extract, ByteArray.size_extract]; have := HOD.out; have h32 := get_size _ HWF.out j (show j < S.n by omega); rw [← this] at h32; omega
            rw [← hp1] at hsl1
            rw [← hp2] at hsl2
            have HP1 := Lib.hid hp1
            have HP2 := Lib.hid hp2
            clear hp1 hp2
            have r0 := fun p : After w11 => p.cell d0
            have r1 := fun p : After w11 => p.cell d1
            have r2 := fun p : After w11 => p.cell d2
            have r3 := fun p : After w11 => p.cell d3
            have r4 := fun p : After w11 => p.cell d4
            have r5 := fun p : After w11 => p.cell d5
            have r6 := fun p : After w11 => p.cell hod
            have r7 := fun p : After w11 => (p.upd.frozen (p := ⟨g4, j, none⟩) hg4' (by simp)).trans (hzf j)
            refine region_after 16 (by kernel_rfl) (by kernel_rfl) ?_
            simp only [List.take_succ_cons, List.take_zero, List.drop_succ_cons, List.drop_zero]
            repeat (go_big_quiet_step ((go_at_call 15; exact After.call _ (text_raw _ _ _ _ _ _ _ htx))))
            refine wpQuiet_nil ?_
            rintro _ ⟨p12, rfl⟩
            have HC : Hid (Calls Try.prog 18 #[.slice (some ⟨g3, 0, none⟩) n cp3, .slice (some ⟨g4, 0, none⟩) n cp4] (p12.w.setCell ⟨g4, j, none⟩ (.string (p1 ++ p2))) fun e w' => e = .returned (.bool true) ∧ Upd [] (p12.w.setCell ⟨g4, j, none⟩ (.string (p1 ++ p2))) w') := by
              have hA : StrsAt (p12.w.setCell ⟨g4, j, none⟩ (.string (p1 ++ p2))) w.heap.size (.slice (some ⟨g3, 0, none⟩) n cp3) ((S.synced.withV (L2.filter (validA n))).fail m tb).start.all :=
                ownsRow_upd HSS.out fun k hk => by
                  obtain rfl : g3 = k := by simpa [Value.ownBlock] using hk
                  rw [Below.heap_setCell _ _ _ _ hg34, p12.upd.block g3 (HSS.out.lt g3 rfl).2 (by simp)]
              have hB : StrsAt (p12.w.setCell ⟨g4, j, none⟩ (.string (p1 ++ p2))) w.heap.size (.slice (some ⟨g4, 0, none⟩) n cp4) ((S.synced.withV ((L2.filter (validA n)).take m)).all.set j (p1 ++ p2)) :=
                strs_set (ownsRow_upd HSW.out fun k hk => p12.upd.block k (HSW.out.lt k hk).2 (by simp)) j l4 _
              have c := same_any w.heap.size _ _ _ _ _ hA hB (by rw [HL13.out]; omega)
              have hl : ((S.synced.withV (L2.filter (validA n))).fail m tb).start.all = (S.synced.withV ((L2.filter (validA n)).take m)).all.set j (p1 ++ p2) := by
                rw [HLX.out, HP1.out, HP2.out]
                rfl
              rwa [decide_eq_true hl] at c
            have HU12 : Hid (Upd [] w (p12.w.setCell ⟨g4, j, none⟩ (.string (p1 ++ p2)))) := (HU1.out.trans p12.upd).setCell (.inr (Nat.le_trans HU.out.size hg4)) _
            clear d0 d1 d2 d3 d4 d5 hod
            go_wp2_with fail
            refine HC.out.mono ?_
            rintro e w13 ⟨rfl, hu13⟩
            have HU13 := Lib.hid (HU12.out.trans hu13)
            clear hu13 r0 r1 r2 r3 r4 r5 r6 r7
            go_wp2
            go_ret
            exact ⟨rfl, HU13.out⟩

end Go.Proofs.Ytcihncgajkogkaa
