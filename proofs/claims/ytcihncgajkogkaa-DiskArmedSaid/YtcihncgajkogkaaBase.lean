/- Small functions of the seat: size, ok. -/
import Derived.Test.YtcihncgajkogkaaRows
import Derived.WalkKit
import Derived.WalkSpells
import Derived.WalkLawsBesides
import Derived.Deep.QuietTactic
import Derived.BigQuiet
import Derived.Lib.Hide
namespace Go.Proofs.Ytcihncgajkogkaa
open Go.RowKit

theorem ret_int {k : IntKind} {a b : Int} (h : a = b) : Ending.returned (.int k a) = .returned (.int k b) := by rw [h]
theorem ret_bool {a b : Bool} (h : a = b) : Ending.returned (.bool a) = .returned (.bool b) := by rw [h]

set_option maxHeartbeats 400000 in
theorem size_any (x : Int) (w : World) (h0 : 0 ≤ x) (h1 : x ≤ 255) :
    Calls Try.prog 8 #[.int .u8 x] w fun e w' => e = .returned (.int .i64 (1 + x % 12)) ∧ w = w' := by
  go_enter Try.func8, Try.ntmps8
  go_wp2
  go_ret
  exact ⟨rfl, rfl⟩

/-- One operation of the law's lists. -/
structure ActR where
  kind : Int
  sector : Int
  bytes : Int
  text : ByteArray
  odd : Bool
  after : Int
instance : Inhabited ActR := ⟨⟨0, 0, 0, ByteArray.empty, false, 0⟩⟩

def ActR.val (a : ActR) : Value := .agg #[.int .i64 a.kind, .int .i64 a.sector, .int .i64 a.bytes, .string a.text, .bool a.odd, .int .i64 a.after]

structure ActAt (w : World) (b o : Nat) (a : ActR) : Prop where
  c0 : w.cell? ⟨b, o, none⟩ = some (.int .i64 a.kind)
  c1 : w.cell? ⟨b, o + 1, none⟩ = some (.int .i64 a.sector)
  c2 : w.cell? ⟨b, o + 2, none⟩ = some (.int .i64 a.bytes)
  c3 : w.cell? ⟨b, o + 3, none⟩ = some (.string a.text)
  c4 : w.cell? ⟨b, o + 4, none⟩ = some (.bool a.odd)
  c5 : w.cell? ⟨b, o + 5, none⟩ = some (.int .i64 a.after)

/-- A list of operations lies in the world from block b, cell o on. -/
structure ActsAt (w : World) (b o : Nat) (l : List ActR) : Prop where
  at_ : ∀ i, (h : i < l.length) → ActAt w b (o + i * 6) l[i]
  wf : ∀ i, (h : i < l.length) → (-9223372036854775808 ≤ l[i].sector ∧ l[i].sector ≤ 9223372036854775807) ∧ l[i].after ≤ 9223372036854775807
  tx : ∀ i, (h : i < l.length) → l[i].text.size ≤ maxLen

def okB (l : List ActR) : Bool := l.all (fun a => decide (a.text.size ≤ 100)) && decide (l.length ≤ 60)

set_option maxHeartbeats 400000 in
theorem ok_any (b o : Nat) (l : List ActR) (cap : Nat) (w : World) (hl : l.length ≤ maxLen) (H : ActsAt w b o l) :
    Calls Try.prog 7 #[.slice (some ⟨b, o, none⟩) l.length cap] w fun e w' => e = .returned (.bool (okB l)) ∧ w = w' := by
  unfold maxLen at hl
  go_enter Try.func7, Try.ntmps7
  go_wp2
  go_loop [3] (fun i => ∃ k : Nat, k ≤ l.length ∧ i = .int .i64 k ∧ (l.take k).all (fun a => decide (a.text.size ≤ 100)) = true) (fun i => l.length - (intOf i).toNat)
  case atStart => exact ⟨0, Nat.zero_le _, rfl, by simp⟩
  case round =>
    obtain ⟨k, hk, rfl, hall⟩ := hrel
    have Hall := Lib.hid hall
    clear hall
    by_cases hlt : k < l.length
    · have c3 := (H.at_ k hlt).c3
      have hsz := H.tx k hlt
      unfold maxLen at hsz
      by_cases hb : l[k].text.size ≤ 100
      · go_wp2
        go_round
        case rel => exact ⟨k + 1, by omega, by go_num, by rw [List.take_succ_eq_append_getElem hlt, List.all_append, Hall.out]; simp [hb]⟩
        case measure => simp [intOf]; omega
      · go_wp2
        go_ret
        have : okB l = false := by
          unfold okB
          rw [Bool.and_eq_false_iff]; left
          rw [List.all_eq_false]
          exact ⟨l[k], List.getElem_mem hlt, by simpa using hb⟩
        exact ⟨ret_bool this.symm, rfl⟩
    · go_wp2
      go_ret
      have e : k = l.length := by omega
      subst e
      have h2 := Hall.out
      rw [List.take_length] at h2
      have h3 : okB l = decide (l.length ≤ 60) := by unfold okB; rw [h2, Bool.true_and]
      exact ⟨ret_bool (by rw [h3]; simp; omega), rfl⟩



/-! ### Frames -/
/-- What was there is as it was, but for the blocks of F. -/
structure Upd (F : List Nat) (w w' : World) : Prop where
  os : w'.os = w.os
  tape : w'.tape = w.tape
  output : w'.output = w.output
  size : w.heap.size ≤ w'.heap.size
  block : ∀ k, k < w.heap.size → k ∉ F → w'.heap[k]? = w.heap[k]?

theorem Upd.refl (F : List Nat) (w : World) : Upd F w w := ⟨rfl, rfl, rfl, Nat.le_refl _, fun _ _ _ => rfl⟩
theorem Upd.trans {F : List Nat} {a b c : World} (h : Upd F a b) (k : Upd F b c) : Upd F a c :=
  ⟨k.os.trans h.os, k.tape.trans h.tape, k.output.trans h.output, Nat.le_trans h.size k.size,
    fun i hi hn => (k.block i (Nat.lt_of_lt_of_le hi h.size) hn).trans (h.block i hi hn)⟩
/-- Two steps, the second of which writes also to blocks that are new. -/
theorem Upd.then {F G : List Nat} {a b c : World} (h : Upd F a b) (k : Upd G b c) (hG : ∀ i ∈ G, i ∈ F ∨ a.heap.size ≤ i) : Upd F a c :=
  ⟨k.os.trans h.os, k.tape.trans h.tape, k.output.trans h.output, Nat.le_trans h.size k.size,
    fun i hi hn => (k.block i (Nat.lt_of_lt_of_le hi h.size) (fun hm => by rcases hG i hm with h1 | h1; exact hn h1; omega)).trans (h.block i hi hn)⟩
theorem Upd.mono {F G : List Nat} {a b : World} (h : Upd F a b) (hs : ∀ i ∈ F, i ∈ G ∨ a.heap.size ≤ i) : Upd G a b :=
  ⟨h.os, h.tape, h.output, h.size, fun i hi hn => h.block i hi (fun hm => by rcases hs i hm with h1 | h1; exact hn h1; omega)⟩
theorem Upd.drewN (F : List Nat) (w : World) (n : Nat) : Upd F w (w.drewN n) := by
  induction n with
  | zero => exact Upd.refl _ _
  | succ n ih => exact ih.trans ⟨rfl, rfl, rfl, Nat.le_refl _, fun _ _ _ => rfl⟩
theorem Upd.drew {F : List Nat} {a w : World} (h : Upd F a w) : Upd F a w.drew := h.trans ⟨rfl, rfl, rfl, Nat.le_refl _, fun _ _ _ => rfl⟩
theorem Upd.drewN' {F : List Nat} {a w : World} (h : Upd F a w) (n : Nat) : Upd F a (w.drewN n) := h.trans (Upd.drewN _ _ _)
theorem Upd.alloc {F : List Nat} {a w : World} (h : Upd F a w) (o : Obj) : Upd F a (w.alloc o) :=
  h.trans ⟨rfl, rfl, rfl, by simp, fun k hk _ => Below.heap_alloc _ _ _ hk⟩
theorem Upd.setCell {F : List Nat} {a w : World} (h : Upd F a w) {p : Addr} (hp : p.block ∈ F ∨ a.heap.size ≤ p.block) (u : Value) : Upd F a (w.setCell p u) := by
  refine h.then (G := [p.block]) ⟨rfl, rfl, rfl, by simp [World.setCell], fun k hk hn => Below.heap_setCell _ _ _ _ (by simpa using hn)⟩ ?_
  intro i hi
  obtain rfl : i = p.block := by simpa using hi
  exact hp
theorem Upd.grown {F : List Nat} {a w w' : World} {row : Option Nat} (h : Upd F a w) (hg : w.grownBy w' row) (hr : ∀ k, row = some k → k ∈ F ∨ a.heap.size ≤ k) : Upd F a w' := by
  refine h.then (G := row.toList) ⟨hg.os, hg.tape, hg.output, hg.size, fun k hk hn => hg.block k hk (fun e => hn (by simp [← e]))⟩ ?_
  intro i hi
  exact hr i (by simpa using hi)
theorem Upd.cell {F : List Nat} {w w' : World} (h : Upd F w w') {p : Addr} {v : Value} (hc : w.cell? p = some v) (hn : p.block ∉ F) : w'.cell? p = some v :=
  (World.cell?_of_block (h.block p.block (World.block_lt_of_cell? w p hc) hn)).trans hc
theorem Upd.frozen {F : List Nat} {w w' : World} (h : Upd F w w') {p : Addr} (hp : p.block < w.heap.size) (hn : p.block ∉ F) : w'.frozen? p = w.frozen? p :=
  World.frozen?_of_block (h.block p.block hp hn)
theorem Upd.below {F : List Nat} {w w' : World} (h : Upd F w w') {N : Nat} (hN : N ≤ w.heap.size) (hF : ∀ k ∈ F, N ≤ k) : Below N w w' :=
  ⟨h.os, h.tape, h.output, h.size, fun k hk => h.block k (by omega) (fun hm => by have := hF k hm; omega)⟩

theorem ActAt.upd {F : List Nat} {w w' : World} {b o : Nat} {a : ActR} (h : ActAt w b o a) (hu : Upd F w w') (hb : b ∉ F) : ActAt w' b o a :=
  ⟨hu.cell h.c0 hb, hu.cell h.c1 hb, hu.cell h.c2 hb, hu.cell h.c3 hb, hu.cell h.c4 hb, hu.cell h.c5 hb⟩
theorem ActsAt.upd {F : List Nat} {w w' : World} {b o : Nat} {l : List ActR} (h : ActsAt w b o l) (hu : Upd F w w') (hb : b ∉ F) : ActsAt w' b o l :=
  ⟨fun i hi => (h.at_ i hi).upd hu hb, h.wf, h.tx⟩

/-! ### text, fill -/
def growT : Nat → ByteArray → ByteArray → ByteArray
  | 0, s, _ => s
  | f + 1, s, t => if s.size < 32 then growT f (s ++ t) t else s

def txtOf (odd : Bool) (t : ByteArray) : ByteArray := if odd || t.toList.isEmpty then t else (growT 32 ByteArray.empty t).extract 0 32
def ActR.txt (a : ActR) : ByteArray := txtOf a.odd a.text

theorem text_size_pos {t : ByteArray} (h : t.toList.isEmpty = false) : 0 < t.size := by
  rw [ByteArray.toList_eq] at h
  have : t.data.toList ≠ [] := by intro e; rw [e] at h; simp at h
  have h2 := List.length_pos_iff.2 this
  simpa using h2

def strLen : Value → Nat | .string s => s.size | _ => 0

theorem growT_step (k : Nat) (s t : ByteArray) (hk : k < 32) (hs : s.size < 32) : growT (32 - k) s t = growT (32 - (k + 1)) (s ++ t) t := by
  obtain ⟨n, hn⟩ : ∃ n, 32 - k = n + 1 := ⟨31 - k, by omega⟩
  have : 32 - (k + 1) = n := by omega
  rw [hn, this, growT, if_pos hs]
theorem growT_stop (n : Nat) (s t : ByteArray) (hs : ¬ s.size < 32) : growT n s t = s := by
  cases n with
  | zero => rfl
  | succ n => rw [growT, if_neg hs]

theorem ret_string {a b : ByteArray} (h : a = b) : Ending.returned (.string a) = .returned (.string b) := by rw [h]

set_option maxHeartbeats 400000 in
theorem text_any (a : ActR) (w : World) (ht : a.text.size ≤ 100) :
    Calls Try.prog 15 #[a.val] w fun e w' => e = .returned (.string a.txt) ∧ Upd [] w w' := by
  obtain ⟨kind, sector, bytes, text, odd, after⟩ := a
  simp only at ht
  unfold ActR.val
  simp only
  have HX : Hid (ActR.txt ⟨kind, sector, bytes, text, odd, after⟩ = txtOf odd text) := rfl
  cases odd with
  | true =>
    go_enter Try.func15, Try.ntmps15
    go_wp2
    go_ret
    exact ⟨ret_string (by rw [HX.out]; rfl), (Upd.refl _ _).alloc _⟩
  | false =>
    cases hE : text.toList.isEmpty with
    | true =>
      go_enter Try.func15, Try.ntmps15
      go_wp2
      go_ret
      exact ⟨ret_string (by rw [HX.out]; unfold txtOf; rw [hE]; rfl), (Upd.refl _ _).alloc _⟩
    | false =>
      have hp := text_size_pos hE
      go_enter Try.func15, Try.ntmps15
      go_wp2
      go_loop [3] (fun v => ∃ (k : Nat) (s : ByteArray), v = .string s ∧ k ≤ s.size ∧ s.size ≤ 132 ∧ Hid (growT (32 - k) s text = growT 32 ByteArray.empty text)) (fun v => 32 - strLen v)
      case atStart => exact ⟨0, ByteArray.empty, rfl, by simp, by decide, rfl⟩
      case round =>
        obtain ⟨k, s, rfl, hk, hs2, hg⟩ := hrel
        by_cases hlt : s.size < 32
        · go_wp2
          go_round
          case rel => exact ⟨k + 1, s ++ text, rfl, by rw [ByteArray.size_append]; omega, by rw [ByteArray.size_append]; omega, by unfold Hid; rw [← growT_step k s text (by omega) hlt]; exact hg.out⟩
          case measure => simp [strLen, ByteArray.size_append]; omega
        · go_wp2
          go_ret
          exact ⟨ret_string (by rw [HX.out]; unfold txtOf; rw [hE, ← hg.out, growT_stop _ _ _ hlt]; rfl), (Upd.refl _ _).alloc _⟩

theorem txt_val (a : ActR) : a.txt = txtOf a.odd a.text := rfl

set_option maxHeartbeats 400000 in
theorem fill_any (t : ByteArray) (w : World) (ht : t.size ≤ 100) :
    Calls Try.prog 20 #[.string t] w fun e w' => e = .returned (.string (txtOf false t)) ∧ Upd [] w w' := by
  go_enter Try.func20, Try.ntmps20
  go_wp2_with (go_at_call 15; refine (text_any ⟨0, 0, 0, t, false, 0⟩ _ ht).mono ?_; rintro e w' ⟨rfl, hu⟩)
  go_ret
  exact ⟨rfl, hu⟩

/-! ### same: two lists of strings that the call owns -/
def strVals (ss : List ByteArray) : List Value := ss.map .string
/-- A slice of strings of the call's own. -/
def StrsAt (w : World) (base : Nat) (v : Value) (ss : List ByteArray) : Prop := w.ownsRow base 9 1 v ss.length (strVals ss)

theorem StrsAt.cases {w : World} {base : Nat} {v : Value} {ss : List ByteArray} (h : StrsAt w base v ss) :
    (v = .slice none 0 0 ∧ ss = []) ∨ ∃ g cap, v = .slice (some ⟨g, 0, none⟩) ss.length cap ∧ base ≤ g ∧ ss.length ≤ cap ∧ cap ≤ maxLen ∧ ∀ i, (h : i < ss.length) → w.cell? ⟨g, i, none⟩ = some (.string ss[i]) ∧ w.frozen? ⟨g, i, none⟩ = false := by
  have h0 := h
  obtain ⟨h1, h2⟩ := h
  rcases h2 with ⟨rfl, hn⟩ | ⟨g, cap, cur, rfl, hb, hg, hn, hc, hs, ht⟩
  · exact .inl ⟨rfl, List.eq_nil_of_length_eq_zero hn⟩
  · refine .inr ⟨g, cap, rfl, hb, hn, hc, fun i hi => ?_⟩
    rw [cell_of_row w g i cur 9 (0, 0) hg]
    have : (strVals ss)[i]? = some (.string ss[i]) := by simp [strVals, hi]
    rw [← ht, List.getElem?_take, if_pos (by omega)] at this
    exact ⟨by simpa using this, by simp [World.frozen?, hg]⟩

theorem StrsAt.form {w : World} {base : Nat} {v : Value} {ss : List ByteArray} (h : StrsAt w base v ss) : ∃ a cap, v = .slice a ss.length cap := by
  rcases h.cases with ⟨rfl, rfl⟩ | ⟨g, cap, rfl, _⟩
  · exact ⟨none, 0, rfl⟩
  · exact ⟨_, _, rfl⟩
theorem StrsAt.some {w : World} {base : Nat} {v : Value} {ss : List ByteArray} (h : StrsAt w base v ss) (hp : 0 < ss.length) :
    ∃ g cap, v = .slice (some ⟨g, 0, none⟩) ss.length cap ∧ base ≤ g ∧ ss.length ≤ cap ∧ cap ≤ maxLen ∧ ∀ i, (h : i < ss.length) → w.cell? ⟨g, i, none⟩ = some (.string ss[i]) ∧ w.frozen? ⟨g, i, none⟩ = false := by
  rcases h.cases with ⟨rfl, rfl⟩ | h
  · simp at hp
  · exact h

set_option maxHeartbeats 400000 in
theorem same_len (a b : Option Addr) (n m ca cb : Nat) (w : World) (hne : ¬ n = m) :
    Calls Try.prog 18 #[.slice a n ca, .slice b m cb] w fun e w' => e = .returned (.bool false) ∧ Upd [] w w' := by
  have hb : ((n : Int) != (m : Int)) = true := by rw [bne_iff_ne]; omega
  go_enter Try.func18, Try.ntmps18
  go_wp2
  go_ret
  exact ⟨rfl, Upd.refl _ _⟩

set_option maxHeartbeats 400000 in
theorem same_zero (a b : Option Addr) (ca cb : Nat) (w : World) :
    Calls Try.prog 18 #[.slice a 0 ca, .slice b 0 cb] w fun e w' => e = .returned (.bool true) ∧ Upd [] w w' := by
  go_enter Try.func18, Try.ntmps18
  go_wp2
  refine wp_loop_rounds 1 ?_; rw [rounds_succ]
  go_wp2
  go_ret
  exact ⟨rfl, Upd.refl _ _⟩

theorem bytes_ne {x y : ByteArray} (h : ¬ x = y) : (x.toList == y.toList) = false := by
  rw [beq_eq_false_iff_ne]
  intro e
  rw [ByteArray.toList_eq, ByteArray.toList_eq] at e
  apply h
  cases x; cases y
  congr
  exact Array.toList_inj.1 e
theorem take_succ_eq {α : Type} {xs ys : List α} {k : Nat} {x : α} (h : xs.take k = ys.take k) {hk : k < xs.length} (hx : x = xs[k]) (hy : some x = ys[k]?) : Hid (xs.take (k + 1) = ys.take (k + 1)) := by
  unfold Hid
  rw [List.take_add_one, List.take_add_one, h, ← hy, List.getElem?_eq_getElem hk, hx]

set_option maxHeartbeats 400000 in
theorem same_some (ga gb ca cb : Nat) (xs ys : List ByteArray) (w : World) (h1 : xs.length ≤ 4000) (he : xs.length = ys.length)
    (hxs : ∀ i, (h : i < xs.length) → w.cell? ⟨ga, i, none⟩ = some (.string xs[i])) (hys : ∀ i, (h : i < ys.length) → w.cell? ⟨gb, i, none⟩ = some (.string ys[i])) :
    Calls Try.prog 18 #[.slice (some ⟨ga, 0, none⟩) xs.length ca, .slice (some ⟨gb, 0, none⟩) ys.length cb] w fun e w' => e = .returned (.bool (decide (xs = ys))) ∧ Upd [] w w' := by
  rw [← he]
  have HE := Lib.hid he
  clear he
  go_enter Try.func18, Try.ntmps18
  go_wp2
  go_loopw [5] (fun i wr => ∃ k : Nat, k ≤ xs.length ∧ i = .int .i64 k ∧ Hid (xs.take k = ys.take k) ∧ ∃ q, wr = w.drewN q) (fun i _ => xs.length - (intOf i).toNat)
  case atStart => exact ⟨0, Nat.zero_le _, rfl, rfl, 0, rfl⟩
  case round =>
    obtain ⟨k, hk, rfl, hp, q, rfl⟩ := hrel
    by_cases hlt : k < xs.length
    · obtain ⟨x, hx, cx⟩ : ∃ x, x = xs[k] ∧ w.cell? ⟨ga, k, none⟩ = some (.string x) := ⟨_, rfl, hxs k hlt⟩
      obtain ⟨y, hy, cy⟩ : ∃ y, some y = ys[k]? ∧ w.cell? ⟨gb, k, none⟩ = some (.string y) :=
        ⟨ys[k]'(by rw [← HE.out]; exact hlt), by simp, hys k (by rw [← HE.out]; exact hlt)⟩
      have HX := Lib.hid hx
      have HY := Lib.hid hy
      clear hx hy hxs hys
      by_cases hxy : x = y
      · subst hxy
        go_wp2
        go_quiet (fail)
        go_wp2
        go_roundw
        case rel => exact ⟨k + 1, by omega, by go_num, take_succ_eq hp.out HX.out HY.out, q + nq, rfl⟩
        case measure => simp [intOf]; omega
      · have hb := bytes_ne hxy
        go_wp2
        go_quiet (fail)
        go_wp2
        go_ret
        have h2 : xs ≠ ys := by
          intro e
          have h3 := HY.out
          rw [← e, List.getElem?_eq_getElem hlt, ← HX.out] at h3
          exact hxy (by simpa using h3.symm)
        exact ⟨ret_bool (by simp [h2]), (Upd.drewN _ _ _).drewN' _⟩
    · go_wp2
      go_ret
      have e : k = xs.length := by omega
      have h2 := hp.out
      rw [e, List.take_length, HE.out, List.take_length] at h2
      exact ⟨ret_bool (by simp [h2]), Upd.drewN _ _ _⟩

theorem same_any (base : Nat) (va vb : Value) (xs ys : List ByteArray) (w : World) (hx : StrsAt w base va xs) (hy : StrsAt w base vb ys) (h1 : xs.length ≤ 4000) :
    Calls Try.prog 18 #[va, vb] w fun e w' => e = .returned (.bool (decide (xs = ys))) ∧ Upd [] w w' := by
  by_cases he : xs.length = ys.length
  · by_cases hp : 0 < xs.length
    · obtain ⟨ga, ca, rfl, _, _, _, hxs⟩ := hx.some hp
      obtain ⟨gb, cb, rfl, _, _, _, hys⟩ := hy.some (by omega)
      exact same_some ga gb ca cb xs ys w h1 he (fun i h => (hxs i h).1) (fun i h => (hys i h).1)
    · have e1 : xs = [] := List.eq_nil_of_length_eq_zero (by omega)
      subst e1
      have e2 : ys = [] := List.eq_nil_of_length_eq_zero (by simpa using he.symm)
      subst e2
      obtain ⟨a, ca, rfl⟩ := hx.form
      obtain ⟨b, cb, rfl⟩ := hy.form
      exact same_zero a b ca cb w
  · obtain ⟨a, ca, rfl⟩ := hx.form
    obtain ⟨b, cb, rfl⟩ := hy.form
    refine (same_len a b _ _ ca cb w he).mono fun e w' h => ⟨?_, h.2⟩
    rw [h.1]
    exact ret_bool (by rw [eq_comm, decide_eq_false_iff_not]; intro e; exact he (by rw [e]))

end Go.Proofs.Ytcihncgajkogkaa
