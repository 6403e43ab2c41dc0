/- DiskStable, walked. -/
import Derived.Test.YtcihncgajkogkaaHead
import Derived.Test.YtcihncgajkogkaaPlain
namespace Go.Proofs.Ytcihncgajkogkaa
open Go.RowKit

/-! ### A disk and other blocks that it leaves alone -/
def LiveK (w0 w : World) (B : Nat) (s : DS) (K : List Nat) : Prop := ∃ f : Foot, f.B = B ∧ DiskAt w w0.heap.size f s ∧ Upd [] w0 w ∧ ∀ k ∈ K, k < w.heap.size ∧ k ∉ f.list

def KeptK (K : List Nat) (w w' : World) : Prop := ∀ k ∈ K, w'.heap[k]? = w.heap[k]?

theorem LiveK.turn {w0 w w' : World} {f f' : Foot} {s s' : DS} {K : List Nat} (hd : DiskAt w w0.heap.size f s) (h0 : Upd [] w0 w) (hK : ∀ k ∈ K, k < w.heap.size ∧ k ∉ f.list) (hd' : DiskAt w' w0.heap.size f' s') (ht : Turn f f' w w') :
    LiveK w0 w' f.B s' K ∧ KeptK K w w' :=
  ⟨⟨f', ht.B, hd', h0.then ht.upd fun k hk => .inr (hd.ge k hk), fun k hk => ⟨Nat.lt_of_lt_of_le (hK k hk).1 ht.upd.size, fun hm => by
      rcases ht.sub k hm with h1 | h1
      · exact (hK k hk).2 h1
      · exact absurd (hK k hk).1 (by omega)⟩⟩,
    fun k hk => ht.upd.block k (hK k hk).1 (hK k hk).2⟩

theorem LiveK.live {w0 w : World} {B : Nat} {s : DS} {K : List Nat} (h : LiveK w0 w B s K) : Live w0 w B s := let ⟨f, a, b, c, _⟩ := h; ⟨f, a, b, c⟩
theorem LiveK.keep {w0 w w' : World} {B : Nat} {s : DS} {K : List Nat} (h : LiveK w0 w B s K) (hu : Upd [] w w') : LiveK w0 w' B s K ∧ KeptK K w w' := by
  obtain ⟨f, hB, hd, h0, hK⟩ := h
  exact ⟨⟨f, hB, hd.upd hu (by simp), h0.trans hu, fun k hk => ⟨Nat.lt_of_lt_of_le (hK k hk).1 hu.size, (hK k hk).2⟩⟩, fun k hk => hu.block k (hK k hk).1 (by simp)⟩
theorem Live.withK {w0 w w' : World} {B : Nat} {s : DS} (h : Live w0 w B s) (hu : Upd [] w w') (K : List Nat) (hK : ∀ k ∈ K, w.heap.size ≤ k ∧ k < w'.heap.size) : LiveK w0 w' B s K := by
  obtain ⟨f, hB, hd, h0⟩ := h
  exact ⟨f, hB, hd.upd hu (by simp), h0.trans hu, fun k hk => ⟨(hK k hk).2, fun hm => by have := hd.lt k hm; have := (hK k hk).1; omega⟩⟩
/-- A store into one of the kept blocks. -/
theorem LiveK.store {w0 w : World} {B : Nat} {s : DS} {K : List Nat} (h : LiveK w0 w B s K) {p : Addr} (hp : p.block ∈ K) (hb : w0.heap.size ≤ p.block) (v : Value) : LiveK w0 (w.setCell p v) B s K := by
  obtain ⟨f, hB, hd, h0, hK⟩ := h
  have hu : Upd [p.block] w (w.setCell p v) := (Upd.refl _ _).setCell (.inl (by simp)) v
  refine ⟨f, hB, hd.upd hu (fun k hk hm => ?_), h0.then hu (fun k hk => .inr ?_), fun k hk => ⟨Nat.lt_of_lt_of_le (hK k hk).1 hu.size, (hK k hk).2⟩⟩
  · obtain rfl : k = p.block := by simpa using hm
    exact (hK _ hp).2 hk
  · obtain rfl : k = p.block := by simpa using hk
    exact hb

section
variable {w0 w : World} {B : Nat} {s : DS} {K : List Nat} (h : LiveK w0 w B s K)
include h
theorem liveK_write (hq : s.q.length < 1000000) (sec : Int) (t : ByteArray) (ht : t.size ≤ maxLen) :
    Calls Try.prog 14 #[.pointer (some ⟨B, 0, none⟩), .int .i64 sec, .string t] w fun e w' => e = .returned (.int .i64 (s.write sec t).2) ∧ LiveK w0 w' B (s.write sec t).1 K ∧ KeptK K w w' := by
  obtain ⟨f, rfl, hd, h0, hK⟩ := h
  exact (write_any hd h0.size hq sec t ht).mono fun e w' ⟨he, f', x, y⟩ => ⟨he, LiveK.turn hd h0 hK x y⟩
theorem liveK_fail (hq : s.q.length ≤ 1000000) (wr b : Int) :
    Calls Try.prog 16 #[.pointer (some ⟨B, 0, none⟩), .int .i64 wr, .int .i64 b] w fun e w' => e = .returned (.tuple #[]) ∧ LiveK w0 w' B (s.fail wr b) K ∧ KeptK K w w' := by
  obtain ⟨f, rfl, hd, h0, hK⟩ := h
  exact (fail_any hd hq wr b).mono fun e w' ⟨he, f', x, y⟩ => ⟨he, LiveK.turn hd h0 hK x y⟩
theorem liveK_start : Calls Try.prog 11 #[.pointer (some ⟨B, 0, none⟩)] w fun e w' => e = .returned (.tuple #[]) ∧ LiveK w0 w' B s.start K ∧ KeptK K w w' := by
  obtain ⟨f, rfl, hd, h0, hK⟩ := h
  exact (start_any hd).mono fun e w' ⟨he, f', x, y⟩ => ⟨he, LiveK.turn hd h0 hK x y⟩
end

theorem all_len (s : DS) : s.all.length = s.n := by simp [DS.all]
theorem all_get (s : DS) (i : Nat) (h : i < s.all.length) : s.all[i] = s.get i := by simp [DS.all]

theorem live_contents' {w0 w : World} {B : Nat} {s : DS} (h : Live w0 w B s) (hq : s.q.length ≤ 1000000) (ho : s.off = false) :
    Calls Try.prog 13 #[.pointer (some ⟨B, 0, none⟩), .int .i64 s.n] w fun e w' => ∃ g cap, e = .returned (.tuple #[.slice (some ⟨g, 0, none⟩) s.n cap, .bool true]) ∧ w.heap.size ≤ g ∧ g < w'.heap.size ∧
      StrsAt w' w.heap.size (.slice (some ⟨g, 0, none⟩) s.n cap) s.all ∧ Upd [] w w' := by
  refine (live_contents h hq ho).mono fun e w' ⟨v, he, hs, hu⟩ => ?_
  obtain ⟨g, cap, rfl, hb, _⟩ := hs.some (by rw [all_len]; exact h.wf.n0)
  rw [all_len] at he hs
  exact ⟨g, cap, he, hb, (hs.lt g rfl).2, hs, hu⟩

theorem strs_cell {w w' : World} {base g cap n : Nat} {ss : List ByteArray} (h : StrsAt w base (.slice (some ⟨g, 0, none⟩) n cap) ss) (hk : w'.heap[g]? = w.heap[g]?) (i : Nat) (hi : i < ss.length) : w'.cell? ⟨g, i, none⟩ = some (.string ss[i]) := by
  rcases h.cases with ⟨h1, _⟩ | ⟨g', cap', h1, _, _, _, hc⟩
  · simp at h1
  · obtain ⟨rfl, -, -⟩ : g = g' ∧ n = ss.length ∧ cap = cap' := by simpa using h1
    rw [World.cell?_of_block hk]
    exact (hc i hi).1

theorem madeCells_bool (n : Nat) : madeCells #[.bool false] n = ((List.replicate n false).map Value.bool).toArray := by
  apply Array.ext'
  apply List.ext_getElem?
  intro i
  by_cases hi : i < n
  · simp [madeCells, hi, Nat.mod_one]
  · simp [madeCells, hi]
theorem info4 : (Try.prog.info? 4).map (fun i => (i.zero, i.size, i.bytes)) = some (some (.bool false), 1, 1) := by kernel_rfl

def boolObj (ws : List Bool) : Obj := .cells (ws.map Value.bool).toArray 4

/-- The disk while the writes after the Sync go on; which sectors were written. -/
structure Wrote (S : DS) (n : Nat) (k : Nat) (s : DS) (ws : List Bool) : Prop where
  off : s.off = false
  armed : s.armed = none
  st : s.st = S.st
  nn : s.n = n
  q : s.q.length ≤ k
  wl : ws.length = n
  w : ∀ p ∈ s.q, ws[p.1]? = some true

theorem Wrote.push {S : DS} {n k : Nat} {s : DS} {ws : List Bool} (h : Wrote S n k s ws) (j : Nat) (hj : j < n) (t : ByteArray) : Wrote S n (k + 1) (s.push (j, t)) (ws.set j true) := by
  refine ⟨h.off, h.armed, h.st, h.nn, by have := h.q; simp [DS.push]; omega, by rw [List.length_set]; exact h.wl, fun p hp => ?_⟩
  simp only [DS.push, List.mem_append, List.mem_singleton] at hp
  rw [List.getElem?_set]
  rcases hp with hp | rfl
  · by_cases e : j = p.1
    · rw [if_pos e, if_pos (by have := h.wl; omega)]
    · rw [if_neg e]
      exact h.w p hp
  · rw [if_pos rfl, if_pos (by have := h.wl; show j < ws.length; omega)]
theorem Wrote.more {S : DS} {n k : Nat} {s : DS} {ws : List Bool} (h : Wrote S n k s ws) : Wrote S n (k + 1) s ws :=
  ⟨h.off, h.armed, h.st, h.nn, Nat.le_succ_of_le h.q, h.wl, h.w⟩

theorem text_raw (k s b : Int) (t : ByteArray) (o : Bool) (a : Int) (w : World) (ht : t.size ≤ 100) :
    Calls Try.prog 15 #[.agg #[.int .i64 k, .int .i64 s, .int .i64 b, .string t, .bool o, .int .i64 a]] w fun e w' => e = .returned (.string (txtOf o t)) ∧ Upd [] w w' := text_any ⟨k, s, b, t, o, a⟩ w ht

theorem bool_cell {w : World} {g : Nat} {ws : List Bool} (h : w.heap[g]? = some (boolObj ws)) (j : Nat) (hj : j < ws.length) : w.cell? ⟨g, j, none⟩ = some (.bool ws[j]) ∧ ∀ i, w.frozen? ⟨g, i, none⟩ = false := by
  refine ⟨?_, fun i => by simp [World.frozen?, h, boolObj]⟩
  rw [cell_of_row w g j _ 4 (0, 0) h]
  simp [hj]
theorem bool_set {w : World} {g : Nat} {ws : List Bool} (h : w.heap[g]? = some (boolObj ws)) (j : Nat) (v : Bool) : (w.setCell ⟨g, j, none⟩ (.bool v)).heap[g]? = some (boolObj (ws.set j v)) := by
  rw [heap_setCell_self h]
  simp [boolObj, List.map_set]

/-! ### The law -/
set_option maxRecDepth 100000 in
set_option maxHeartbeats 4000000 in
theorem stable_walk (w : World) (x : Int) (h0 : 0 ≤ x) (h1 : x ≤ 255) (a1 a2 : Option Addr) (c1 c2 : Nat) (L1 L2 : List ActR) (A1 : ArgActs w a1 L1) (A2 : ArgActs w a2 L2) (nw by_ : Int) :
    Calls Try.prog 3 #[.int .u8 x, .slice a1 L1.length c1, .slice a2 L2.length c2, .int .i64 nw, .int .i64 by_] w fun e w' => e = .returned (.bool true) ∧ Upd [] w w' := by
  have hl1 := A1.len
  have hl2 := A2.len
  unfold maxLen at hl1 hl2
  by_cases k1 : okB L1 = true
  case neg =>
    have k1' : okB L1 = false := by simpa using k1
    have HO1 : Hid (∀ w', Upd [] w w' → Calls Try.prog 7 #[.slice a1 L1.length c1] w' fun e w'' => e = .returned (.bool false) ∧ w' = w'') := by
      intro w' hu; have := ok_gen a1 L1 c1 w' (A1.upd hu); rwa [k1'] at this
    clear A1 A2 k1 k1'
    go_enter Try.func3, Try.ntmps3
    go_wp2_with fail
    refine (head_any w).mono ?_
    rintro e w1 ⟨rfl, hu1⟩
    have HU1 := Lib.hid hu1
    clear hu1
    go_wp2_with fail
    refine (HO1.out w1 HU1.out).mono ?_
    rintro e w2 ⟨rfl, rfl⟩
    go_wp2
    go_ret
    exact ⟨rfl, HU1.out⟩
  case pos =>
    have HO1 : Hid (∀ w', Upd [] w w' → Calls Try.prog 7 #[.slice a1 L1.length c1] w' fun e w'' => e = .returned (.bool true) ∧ w' = w'') := by
      intro w' hu; have := ok_gen a1 L1 c1 w' (A1.upd hu); rwa [k1] at this
    by_cases k2 : okB L2 = true
    case neg =>
      have k2' : okB L2 = false := by simpa using k2
      have HO2 : Hid (∀ w', Upd [] w w' → Calls Try.prog 7 #[.slice a2 L2.length c2] w' fun e w'' => e = .returned (.bool false) ∧ w' = w'') := by
        intro w' hu; have := ok_gen a2 L2 c2 w' (A2.upd hu); rwa [k2'] at this
      clear A1 A2 k1 k2 k2'
      go_enter Try.func3, Try.ntmps3
      go_wp2_with fail
      refine (head_any w).mono ?_
      rintro e w1 ⟨rfl, hu1⟩
      have HU1 := Lib.hid hu1
      clear hu1
      go_wp2_with fail
      refine (HO1.out w1 HU1.out).mono ?_
      rintro e w2 ⟨rfl, rfl⟩
      go_wp2_with fail
      refine (HO2.out w1 HU1.out).mono ?_
      rintro e w2 ⟨rfl, rfl⟩
      go_wp2
      go_ret
      exact ⟨rfl, HU1.out⟩
    case pos =>
      have HO2 : Hid (∀ w', Upd [] w w' → Calls Try.prog 7 #[.slice a2 L2.length c2] w' fun e w'' => e = .returned (.bool true) ∧ w' = w'') := by
        intro w' hu; have := ok_gen a2 L2 c2 w' (A2.upd hu); rwa [k2] at this
      obtain ⟨s1, K1⟩ := okB_short k1
      obtain ⟨s2, K2⟩ := okB_short k2
      have KK1 := Lib.hid K1
      have KK2 := Lib.hid K2
      clear K1 K2 k1 k2
      obtain ⟨n, hn⟩ : ∃ n : Nat, 1 + x % 12 = n := ⟨(1 + x % 12).toNat, by omega⟩
      have hn1 : 1 ≤ n := by omega
      have hn2 : n ≤ 12 := by omega
      have HN := Lib.hid hn
      clear hn
      go_enter Try.func3, Try.ntmps3
      go_wp2_with fail
      refine (head_any w).mono ?_
      rintro e w1 ⟨rfl, hu1⟩
      have HU1 := Lib.hid hu1
      clear hu1
      go_wp2_with fail
      refine (HO1.out w1 HU1.out).mono ?_
      rintro e w2 ⟨rfl, rfl⟩
      go_wp2_with fail
      refine (HO2.out w1 HU1.out).mono ?_
      rintro e w2 ⟨rfl, rfl⟩
      go_wp2_with fail
      have c := size_any x w1 h0 h1
      rw [HN.out] at c
      refine c.mono ?_
      rintro e w2 ⟨rfl, rfl⟩
      clear c
      go_wp2_with fail
      refine (live_new w w1 HU1.out n hn1 (by omega)).mono ?_
      rintro e w2 ⟨B, rfl, hl⟩
      have HL2 := Lib.hid hl
      clear hl HU1 HO1 HO2 h0 h1
      go_wp2
      go_loopw [14] (fun i wr' => ∃ k : Nat, k ≤ L1.length ∧ i = .int .i64 k ∧ Live w wr' B ((DS.new n).acts (L1.take k))) (fun i _ => L1.length - (intOf i).toNat)
      case atStart => exact ⟨0, Nat.zero_le _, rfl, HL2.out⟩
      case round =>
        obtain ⟨k, hk, rfl, hl⟩ := hrel
        have HL := Lib.hid hl
        clear hl
        by_cases hlt : k < L1.length
        · obtain ⟨b, o, ha, hx⟩ := A1.lies (by omega)
          subst ha
          have hat := ((hx.upd HL.out.upd (by simp)).at_ k hlt)
          have hwf := hx.wf k hlt
          have htx := KK1.out _ (List.getElem_mem hlt)
          have hstep := acts_take (DS.new n) L1 k hlt
          obtain ⟨y, hy⟩ : ∃ y, y = L1[k] := ⟨_, rfl⟩
          rw [← hy] at hat hwf htx hstep
          have HST := Lib.hid hstep
          have hq : ((DS.new n).acts (L1.take k)).q.length < 1000000 := by
            have := acts_q (DS.new n) (L1.take k)
            rw [List.length_take] at this
            simp only [DS.new, List.length_nil] at this ⊢
            omega
          have HC := Lib.hid (live_do HL.out hq y htx hwf.2)
          obtain ⟨d0, d1, d2, d3, d4, d5⟩ := hat
          clear hx hstep hy hwf htx hq
          go_wp2_with fail
          refine HC.out.mono ?_
          rintro e w3 ⟨⟨t, m, rfl⟩, hl⟩
          rw [← HST.out] at hl
          have HL3 := Lib.hid hl
          clear hl
          go_wp2
          go_roundw
          case rel => exact ⟨k + 1, by omega, by go_num, HL3.out⟩
          case measure => simp [intOf]; omega
        · have e : k = L1.length := by omega
          have HL3 : Hid (Live w wr B ((DS.new n).acts L1)) := by
            have h2 := HL.out
            rw [e, List.take_length] at h2
            exact h2
          clear HL e HL2
          obtain ⟨S, hS⟩ : ∃ S, S = (DS.new n).acts L1 := ⟨_, rfl⟩
          have hSn : S.n = n := by rw [hS, acts_n]; rfl
          have hSq : S.q.length ≤ 60 := by
            have := acts_q (DS.new n) L1
            rw [hS]
            simp only [DS.new, List.length_nil] at this ⊢
            omega
          rw [← hS] at HL3
          clear hS
          go_wp2_with fail
          refine (live_start HL3.out).mono ?_
          rintro e w4 ⟨rfl, hl⟩
          have HL4 := Lib.hid hl
          clear hl HL3
          go_wp2_with fail
          have c := live_sync HL4.out (by simp only [DS.start]; omega)
          rw [start_sync] at c
          refine c.mono ?_
          rintro e w5 ⟨rfl, hl⟩
          have HL5 : Hid (Live w w5 B S.synced) := hl
          clear hl HL4 c
          have c := live_contents' HL5.out (by simp [DS.synced]) rfl
          have hSn' : S.synced.n = n := hSn
          rw [hSn'] at c
          go_wp2_with fail
          refine c.mono ?_
          rintro e w6 ⟨g1, cp1, rfl, hg1, hg1', hs1, hu6⟩
          have HS1 := Lib.hid hs1
          have HU6 := Lib.hid hu6
          clear c hs1 hSn' hu6
          have hmk := run_make_row' (P := Try.prog) 37 4 (.bool false) 1 Try.underlying37 info4 rfl .i64 .i64 n (by omega) (by omega)
          rw [madeCells_bool] at hmk
          have HW0 : Hid (LiveK w (w6.alloc (boolObj (List.replicate n false))) B S.synced [g1, w6.heap.size]) := by
            refine HL5.out.withK (HU6.out.alloc _) _ fun k hk => ?_
            simp only [List.mem_cons, List.not_mem_nil, or_false] at hk
            rcases hk with rfl | rfl
            · exact ⟨hg1, by simp; omega⟩
            · exact ⟨HU6.out.size, by simp⟩
          have HI0 : Hid (Wrote S.synced n 0 S.synced (List.replicate n false)) := ⟨rfl, rfl, rfl, hSn, Nat.zero_le _, by simp, by simp [DS.synced]⟩
          have HG1 : Hid ((w6.alloc (boolObj (List.replicate n false))).heap[g1]? = w6.heap[g1]?) := Below.heap_alloc _ _ _ hg1'
          have HG2 : Hid ((w6.alloc (boolObj (List.replicate n false))).heap[w6.heap.size]? = some (boolObj (List.replicate n false))) := heap_alloc_new _ _
          have hge : w.heap.size ≤ w6.heap.size := (HL5.out.upd.trans HU6.out).size
          have hg12 : g1 ≠ w6.heap.size := by omega
          obtain ⟨g2, hg2⟩ : ∃ g2, g2 = w6.heap.size := ⟨_, rfl⟩
          go_wp2_with fail
          have hwo : w6.alloc (Obj.cells (Array.replicate n (Value.bool false)) 4) = w6.alloc (boolObj (List.replicate n false)) := by simp [boolObj]
          rw [hwo]
          rw [← hg2] at HW0 HG2 hg12 hge ⊢
          clear hwo HL5 HU6 hmk
          generalize w6.alloc (boolObj (List.replicate n false)) = w7 at *
          clear hg2
          go_loopw [18] (fun i wr => ∃ (k : Nat) (s : DS) (ws : List Bool), k ≤ L2.length ∧ i = .int .i64 k ∧ LiveK w wr B s [g1, g2] ∧ Hid (wr.heap[g1]? = w6.heap[g1]?) ∧ Hid (wr.heap[g2]? = some (boolObj ws)) ∧ Wrote S.synced n k s ws) (fun i _ => L2.length - (intOf i).toNat)
          case atStart => exact ⟨0, _, _, Nat.zero_le _, rfl, HW0.out, HG1.out, HG2.out, HI0.out⟩
          case round =>
            obtain ⟨k', s, ws, hk', rfl, hl, G1, G2, hI⟩ := hrel
            have HL := Lib.hid hl
            have HI := Lib.hid hI
            have hqs : s.q.length ≤ 60 := by have := hI.q; omega
            clear hl hI HW0 HI0 HG1 HG2
            by_cases hlt2 : k' < L2.length
            · obtain ⟨b, o, ha, hx⟩ := A2.lies (by omega)
              subst ha
              have HX : Hid (∀ w', Upd [] w w' → ActAt w' b (o + k' * 6) L2[k']) := fun w' hu => (hx.upd hu (by simp)).at_ k' hlt2
              have hwf := (hx.wf k' hlt2).1
              have htx := KK2.out _ (List.getElem_mem hlt2)
              obtain ⟨y, hy⟩ : ∃ y, y = L2[k'] := ⟨_, rfl⟩
              rw [← hy] at HX hwf htx
              have hsz : (txtOf y.odd y.text).size ≤ 100 := size_txt y htx
              clear hx hy
              by_cases hv : 0 ≤ y.sector ∧ y.sector < n ∧ (txtOf y.odd y.text).size = 32
              · obtain ⟨j, hj⟩ : ∃ j : Nat, y.sector = j := ⟨y.sector.toNat, by omega⟩
                have hjn : j < n := by omega
                have HC : Hid (∀ w', LiveK w w' B s [g1, g2] → Calls Try.prog 14 #[.pointer (some ⟨B, 0, none⟩), .int .i64 j, .string (txtOf y.odd y.text)] w' fun e w'' => e = .returned (.int .i64 0) ∧ LiveK w w'' B (s.push (j, txtOf y.odd y.text)) [g1, g2] ∧ KeptK [g1, g2] w' w'') := by
                  intro w' hl
                  have c := liveK_write hl (by omega) j (txtOf y.odd y.text) (Nat.le_trans hsz (by decide))
                  rwa [write_ok s HI.out.off HI.out.armed j (by rw [HI.out.nn]; exact hjn) _ hv.2.2] at c
                have HX' : Hid (∀ w', Upd [] w w' → ActAt w' b (o + k' * 6) ⟨y.kind, j, y.bytes, y.text, y.odd, y.after⟩) := by
                  intro w' hu
                  have := HX.out w' hu
                  rw [← hj]
                  exact this
                have HU := Lib.hid HL.out.live.upd
                obtain ⟨d0, d1, d2, d3, d4, d5⟩ := HX'.out wr HU.out
                simp only at d0 d1 d2 d3 d4 d5
                clear hv hj hwf HX
                go_wp2_with fail
                go_region_with (first | (go_at_call 15; refine (text_raw _ _ _ _ _ _ _ htx).mono ?_; rintro e w8 ⟨rfl, hu8⟩; have HU8 := Lib.hid (((Upd.refl [] wr).drew).trans hu8); have e1 := HU8.out.cell d1 (by simp); clear hu8) | (go_at_call 14; refine (HC.out _ (HL.out.keep HU8.out).1).mono ?_; rintro e w9 ⟨rfl, hl9, hk9⟩; have HL9 := Lib.hid hl9; have HK9 := Lib.hid hk9; clear hl9 hk9))
                all_goals
                  have f1 := (HX'.out _ HL9.out.live.upd).c1
                  simp only at f1
                  have K8 := (HL.out.keep HU8.out).2
                  have G1' : Hid (w9.heap[g1]? = w6.heap[g1]?) := (HK9.out g1 (by simp)).trans ((K8 g1 (by simp)).trans G1.out)
                  have G2' : Hid (w9.heap[g2]? = some (boolObj ws)) := (HK9.out g2 (by simp)).trans ((K8 g2 (by simp)).trans G2.out)
                  have hb := bool_cell G2'.out j (by have := HI.out.wl; omega)
                  obtain ⟨bv, hbv⟩ : ∃ bv, w9.cell? ⟨g2, j, none⟩ = some (.bool bv) := ⟨_, hb.1⟩
                  have hbz := hb.2
                  clear hb K8 d0 d1 d2 d3 d4 d5 HU8 HK9
                  go_wp2
                  go_roundw
                  case rel => exact ⟨k' + 1, s.push (j, txtOf y.odd y.text), ws.set j true, by omega, by go_num, HL9.out.store (p := ⟨g2, j, none⟩) (by simp) hge _, by unfold Hid; rw [Below.heap_setCell _ _ _ _ hg12]; exact G1'.out, bool_set G2'.out j true, HI.out.push j hjn _⟩
                  case measure => simp [intOf]; omega
              · have HC : Hid (∀ w', LiveK w w' B s [g1, g2] → Calls Try.prog 14 #[.pointer (some ⟨B, 0, none⟩), .int .i64 y.sector, .string (txtOf y.odd y.text)] w' fun e w'' => e = .returned (.int .i64 1) ∧ LiveK w w'' B s [g1, g2] ∧ KeptK [g1, g2] w' w'') := by
                  intro w' hl
                  have c := liveK_write hl (by omega) y.sector (txtOf y.odd y.text) (Nat.le_trans hsz (by decide))
                  rwa [write_bad s HI.out.off y.sector _ (by rw [HI.out.nn]; exact hv)] at c
                obtain ⟨d0, d1, d2, d3, d4, d5⟩ := HX.out wr HL.out.live.upd
                clear hv hwf
                go_wp2_with fail
                go_region_with (first | (go_at_call 15; refine (text_raw _ _ _ _ _ _ _ htx).mono ?_; rintro e w8 ⟨rfl, hu8⟩; have HU8 := Lib.hid (((Upd.refl [] wr).drew).trans hu8); have e1 := HU8.out.cell d1 (by simp); clear hu8) | (go_at_call 14; refine (HC.out _ (HL.out.keep HU8.out).1).mono ?_; rintro e w9 ⟨rfl, hl9, hk9⟩; have HL9 := Lib.hid hl9; have HK9 := Lib.hid hk9; clear hl9 hk9))
                all_goals
                  have K8 := (HL.out.keep HU8.out).2
                  have G1' : Hid (w9.heap[g1]? = w6.heap[g1]?) := (HK9.out g1 (by simp)).trans ((K8 g1 (by simp)).trans G1.out)
                  have G2' : Hid (w9.heap[g2]? = some (boolObj ws)) := (HK9.out g2 (by simp)).trans ((K8 g2 (by simp)).trans G2.out)
                  clear K8 d0 d1 d2 d3 d4 d5 HU8 HK9
                  go_wp2
                  go_roundw
                  case rel => exact ⟨k' + 1, s, ws, by omega, by go_num, HL9.out, G1'.out, G2'.out, HI.out.more⟩
                  case measure => simp [intOf]; omega
            · go_wp2_with fail
              have hoff := HI.out.off
              refine (liveK_fail HL.out (by omega) nw by_).mono ?_
              rintro e w8 ⟨rfl, hl8, hk8⟩
              have HL8 := Lib.hid hl8
              have HK8 := Lib.hid hk8
              clear hl8 hk8 hoff
              go_wp2_with fail
              refine (liveK_start HL8.out).mono ?_
              rintro e w9 ⟨rfl, hl9, hk9⟩
              have HL9 := Lib.hid hl9
              have HK9 := Lib.hid (fun k hk => (hk9 k hk).trans (HK8.out k hk))
              clear hl9 hk9 HK8 HL8
              go_wp2_with fail
              have c := live_contents' HL9.out.live (by have := fail_q s nw by_; simp only [DS.start]; omega) rfl
              have hn9 : (s.fail nw by_).start.n = n := by
                have := HI.out.nn
                unfold DS.fail DS.start
                split <;> exact this
              rw [hn9] at c
              refine c.mono ?_
              rintro e w10 ⟨g3, cp3, rfl, hg3, hg3', hs3, hu10⟩
              have HS3 := Lib.hid hs3
              have HU10 := Lib.hid hu10
              clear c hs3 hu10
              have HN : Hid (∀ W, Upd [] w10 W → ∀ i, i < n → ∃ bv nv wv, W.cell? ⟨g2, i, none⟩ = some (.bool bv) ∧ W.cell? ⟨g3, i, none⟩ = some (.string nv) ∧ W.cell? ⟨g1, i, none⟩ = some (.string wv) ∧ (bv = false → nv = wv)) := by
                intro W hW i hi
                have hUW : Upd [] w9 W := HU10.out.trans hW
                have hk10 := (HL9.out.keep hUW).2
                have e2 : W.heap[g2]? = some (boolObj ws) := (hk10 g2 (by simp)).trans ((HK9.out g2 (by simp)).trans G2.out)
                have e1 : W.heap[g1]? = w6.heap[g1]? := (hk10 g1 (by simp)).trans ((HK9.out g1 (by simp)).trans G1.out)
                have hwl := HI.out.wl
                have l1 : i < S.synced.all.length := by rw [all_len]; show i < S.n; omega
                have l3 : i < (s.fail nw by_).start.all.length := by rw [all_len, hn9]; exact hi
                refine ⟨ws[i]'(by omega), (s.fail nw by_).start.all[i]'l3, S.synced.all[i]'l1, (bool_cell e2 i (by omega)).1, strs_cell HS3.out (hW.block g3 hg3' (by simp)) i l3, strs_cell HS1.out e1 i l1, fun hb => ?_⟩
                rw [all_get, all_get, fail_keeps s HL.out.live.wf HI.out.off nw by_ i (fun p hp e => ?_), HI.out.st]
                · rfl
                · have h1 := HI.out.w p hp
                  rw [e, List.getElem?_eq_getElem (by omega), hb] at h1
                  simp at h1
              have HU : Hid (Upd [] w w10) := HL9.out.live.upd.trans HU10.out
              clear hn9
              go_wp2_with fail
              go_loopw [22] (fun i wr => ∃ k : Nat, k ≤ n ∧ i = .int .i64 k ∧ Upd [] w10 wr) (fun i _ => n - (intOf i).toNat)
              case atStart => exact ⟨0, Nat.zero_le _, rfl, Upd.refl _ _⟩
              case round =>
                obtain ⟨k3, hk3, rfl, hu⟩ := hrel
                have HU3 := Lib.hid hu
                clear hu
                by_cases hlt3 : k3 < n
                · obtain ⟨bv, nv, wv, z1, z2, z3, hbw⟩ := HN.out wr HU3.out k3 hlt3
                  cases bv with
                  | true =>
                    clear hbw
                    go_wp2
                    go_quiet (fail)
                    go_wp2
                    go_roundw
                    case rel => exact ⟨k3 + 1, by omega, by go_num, HU3.out.drewN' _⟩
                    case measure => simp [intOf]; omega
                  | false =>
                    obtain rfl : nv = wv := hbw rfl
                    clear hbw
                    go_wp2
                    go_quiet (fail)
                    go_wp2
                    go_roundw
                    case rel => exact ⟨k3 + 1, by omega, by go_num, HU3.out.drewN' _⟩
                    case measure => simp [intOf]; omega
                · go_wp2
                  go_ret
                  exact ⟨rfl, HU.out.trans HU3.out⟩

end Go.Proofs.Ytcihncgajkogkaa
