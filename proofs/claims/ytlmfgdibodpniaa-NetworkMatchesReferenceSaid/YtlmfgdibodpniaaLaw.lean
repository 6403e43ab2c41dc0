/- The law's own small functions: short, small, good; Packets, Count. -/
import Derived.Test.YtlmfgdibodpniaaSend
import Derived.Laws.StructEq
namespace Go.Proofs.Ytlmfgdibodpniaa
open Go.RowKit

/-! ### Operations that came in -/
structure OpR where
  kind : Int
  house : Int
  p : Pk
instance : Inhabited OpR := ⟨⟨0, 0, default⟩⟩
structure OpAt (w : World) (b o : Nat) (a : OpR) : Prop where
  c0 : w.cell? ⟨b, o, none⟩ = some (.int .i64 a.kind)
  c1 : w.cell? ⟨b, o + 1, none⟩ = some (.int .i64 a.house)
  c2 : w.cell? ⟨b, o + 2, none⟩ = some (.int .i64 a.p.src)
  c3 : w.cell? ⟨b, o + 3, none⟩ = some (.int .i64 a.p.dst)
  c4 : w.cell? ⟨b, o + 4, none⟩ = some (.string a.p.body)
theorem OpAt.upd {F : List Nat} {w w' : World} {b o : Nat} {a : OpR} (h : OpAt w b o a) (hu : Upd F w w') (hb : b ∉ F) : OpAt w' b o a :=
  ⟨hu.cell h.c0 hb, hu.cell h.c1 hb, hu.cell h.c2 hb, hu.cell h.c3 hb, hu.cell h.c4 hb⟩
theorem OpAt.lt {w : World} {b o : Nat} {a : OpR} (h : OpAt w b o a) : b < w.heap.size := World.block_lt_of_cell? w _ h.c0
structure ArgOps (w : World) (a : Option Addr) (l : List OpR) : Prop where
  len : l.length ≤ maxLen
  cap : a = none → l = []
  at_ : l ≠ [] → ∃ b o, a = some ⟨b, o, none⟩ ∧ ∀ i, (h : i < l.length) → OpAt w b (o + i * 5) l[i]
  tx : ∀ x ∈ l, x.p.body.size ≤ maxLen
theorem ArgOps.upd {w w' : World} {a : Option Addr} {l : List OpR} (h : ArgOps w a l) (hu : Upd [] w w') : ArgOps w' a l :=
  ⟨h.len, h.cap, fun hp => let ⟨b, o, ha, hx⟩ := h.at_ hp; ⟨b, o, ha, fun i hi => (hx i hi).upd hu (by simp)⟩, h.tx⟩
theorem ArgOps.get {w : World} {a : Option Addr} {l : List OpR} (h : ArgOps w a l) {i : Nat} (hi : i < l.length) : ∃ b o, a = some ⟨b, o, none⟩ ∧ OpAt w b (o + i * 5) l[i] := by
  obtain ⟨b, o, ha, hx⟩ := h.at_ (by intro e; rw [e] at hi; simp at hi)
  exact ⟨b, o, ha, hx i hi⟩

def shortB (l : List OpR) : Bool := l.all fun x => decide (x.p.body.size ≤ 100)
def smallB (fs : List Fa) (l : List OpR) : Bool := decide (fs.length ≤ 60) && decide (l.length ≤ 200) && shortB l

set_option maxHeartbeats 400000 in
theorem short_any {w : World} (a : Option Addr) (cap : Nat) (l : List OpR) (H : ArgOps w a l) :
    Calls Try.prog 11 #[.slice a l.length cap] w fun e w' => e = .returned (.bool (shortB l)) ∧ w = w' := by
  have hl := H.len
  unfold maxLen at hl
  go_enter Try.func11, Try.ntmps11
  go_wp2
  go_loop [3] (fun i => ∃ k : Nat, k ≤ l.length ∧ i = .int .i64 k ∧ Hid (shortB (l.take k) = true)) (fun i => l.length - (intOf i).toNat)
  case atStart => exact ⟨0, Nat.zero_le _, rfl, by simp [Hid, shortB]⟩
  case round =>
    obtain ⟨k, hk, rfl, hall⟩ := hrel
    by_cases hlt : k < l.length
    · obtain ⟨b, o, ha, hx⟩ := H.get hlt
      subst ha
      have c4 := hx.c4
      have hsz := H.tx _ (List.getElem_mem hlt)
      unfold maxLen at hsz
      have HT : Hid (l[k].p.body.size ≤ 100 → shortB (l.take (k + 1)) = true) := by
        intro h
        unfold shortB at hall ⊢
        rw [List.take_succ_eq_append_getElem hlt, List.all_append, hall.out]; simp [h]
      have HF : Hid (¬ l[k].p.body.size ≤ 100 → shortB l = false) := by
        intro h
        unfold shortB
        rw [List.all_eq_false]; exact ⟨l[k], List.getElem_mem hlt, by simpa using h⟩
      obtain ⟨y, hy⟩ : ∃ y, y = l[k] := ⟨_, rfl⟩
      rw [← hy] at c4 hsz HT HF
      clear hx hy
      by_cases hb : y.p.body.size ≤ 100
      · go_wp2
        go_round
        case rel => exact ⟨k + 1, by omega, by go_num, HT.out hb⟩
        case measure => simp [intOf]; omega
      · go_wp2
        go_ret
        exact ⟨ret_bool (HF.out hb).symm, rfl⟩
    · go_wp2
      go_ret
      have e : k = l.length := by omega
      subst e
      have h2 := hall.out
      rw [List.take_length] at h2
      exact ⟨ret_bool h2.symm, rfl⟩

set_option maxHeartbeats 400000 in
theorem small_any {w : World} (a b : Option Addr) (ca cb : Nat) (fs : List Fa) (l : List OpR) (H : ArgOps w b l) (hf : fs.length ≤ maxLen) :
    Calls Try.prog 23 #[.slice a fs.length ca, .slice b l.length cb] w fun e w' => e = .returned (.bool (smallB fs l)) ∧ w = w' := by
  have hl := H.len
  unfold maxLen at hl hf
  have HS := Lib.hid (short_any b cb l H)
  have HB : Hid (smallB fs l = (decide (fs.length ≤ 60) && decide (l.length ≤ 200) && shortB l)) := rfl
  obtain ⟨s, hs⟩ : ∃ s, s = shortB l := ⟨_, rfl⟩
  rw [← hs] at HS HB
  clear H hs
  by_cases h1 : fs.length ≤ 60
  · by_cases h2 : l.length ≤ 200
    · go_enter Try.func23, Try.ntmps23
      go_wp2_with (go_at_call 11; refine HS.out.mono ?_; rintro e w' ⟨rfl, rfl⟩)
      go_ret
      exact ⟨ret_bool (by rw [HB.out]; simp [h1, h2]), rfl⟩
    · go_enter Try.func23, Try.ntmps23
      go_wp2_with (go_at_call 11; refine HS.out.mono ?_; rintro e w' ⟨rfl, rfl⟩)
      go_ret
      exact ⟨ret_bool (by rw [HB.out]; simp [h2]), rfl⟩
  · go_enter Try.func23, Try.ntmps23
    go_wp2_with (go_at_call 11; refine HS.out.mono ?_; rintro e w' ⟨rfl, rfl⟩)
    go_ret
    exact ⟨ret_bool (by rw [HB.out]; simp [h1]), rfl⟩

def goodB (n : Int) (fs : List Fa) : Bool := decide (1 ≤ n ∧ n ≤ 12) && rightB fs

set_option maxHeartbeats 400000 in
theorem good_any {w : World} (n : Int) (a : Option Addr) (ca : Nat) (fs : List Fa) (H : ArgFates w a fs) (hc : a = none → ca = 0) (h500 : fs.length ≤ 1000) :
    Calls Try.prog 24 #[.int .i64 n, .slice a fs.length ca] w fun e w' => e = .returned (.bool (goodB n fs)) ∧ Upd [] w w' := by
  by_cases h1 : n < 1
  · have HB : Hid (goodB n fs = false) := by
      have : ¬ (1 ≤ n ∧ n ≤ 12) := by omega
      simp [Hid, goodB, this]
    clear H hc
    go_enter Try.func24, Try.ntmps24
    go_wp2
    go_ret
    exact ⟨ret_bool HB.out.symm, Upd.refl _ _⟩
  · by_cases h2 : 12 < n
    · have HB : Hid (goodB n fs = false) := by
        have : ¬ (1 ≤ n ∧ n ≤ 12) := by omega
        simp [Hid, goodB, this]
      clear H hc
      go_enter Try.func24, Try.ntmps24
      go_wp2
      go_ret
      exact ⟨ret_bool HB.out.symm, Upd.refl _ _⟩
    · obtain ⟨m, rfl⟩ := Int.eq_ofNat_of_zero_le (show 0 ≤ n by omega)
      have h3 : 1 ≤ m := by omega
      have h4 : m ≤ 12 := by omega
      clear h1 h2
      cases hr : rightB fs with
      | true =>
        have HB : Hid (goodB m fs = true) := by simp [Hid, goodB, hr]; omega
        have HN := Lib.hid (new_ok (w := w) m h3 h4 a ca fs H hc h500 hr)
        clear H hc hr
        go_enter Try.func24, Try.ntmps24
        go_wp2_with (go_at_call 12; refine HN.out.mono ?_; rintro e w' ⟨f, rfl, -, hu⟩)
        go_ret
        exact ⟨ret_bool HB.out.symm, hu⟩
      | false =>
        have HB : Hid (goodB m fs = false) := by simp [Hid, goodB, hr]
        have HN := Lib.hid (new_wrong (w := w) m h3 h4 a ca fs H hr)
        clear H hc hr
        go_enter Try.func24, Try.ntmps24
        go_wp2_with (go_at_call 12; refine HN.out.mono ?_; rintro e w' ⟨rfl, hu⟩)
        go_ret
        exact ⟨ret_bool HB.out.symm, hu⟩

/-! ### Lists of packets, read -/
structure PkAt (w : World) (b o : Nat) (a : Pk) : Prop where
  c0 : w.cell? ⟨b, o, none⟩ = some (.int .i64 a.src)
  c1 : w.cell? ⟨b, o + 1, none⟩ = some (.int .i64 a.dst)
  c2 : w.cell? ⟨b, o + 2, none⟩ = some (.string a.body)
theorem PkAt.upd {F : List Nat} {w w' : World} {b o : Nat} {a : Pk} (h : PkAt w b o a) (hu : Upd F w w') (hb : b ∉ F) : PkAt w' b o a :=
  ⟨hu.cell h.c0 hb, hu.cell h.c1 hb, hu.cell h.c2 hb⟩
/-- A slice of packets, as it is read. -/
def PkList (w : World) (v : Value) (l : List Pk) : Prop := ∃ a cap, v = .slice a l.length cap ∧ (l ≠ [] → ∃ b, a = some ⟨b, 0, none⟩ ∧ ∀ i, (h : i < l.length) → PkAt w b (i * 3) l[i])
theorem PkList.upd {w w' : World} {v : Value} {l : List Pk} (h : PkList w v l) (hu : Upd [] w w') : PkList w' v l := by
  obtain ⟨a, cap, rfl, hx⟩ := h
  refine ⟨a, cap, rfl, fun hl => ?_⟩
  obtain ⟨b, ha, hc⟩ := hx hl
  exact ⟨b, ha, fun i hi => (hc i hi).upd hu (by simp)⟩
theorem pk3_len (l : List Pk) : (l.flatMap pkVals).length = l.length * 3 := by
  induction l with
  | nil => rfl
  | cons a l ih => simp only [List.flatMap_cons, List.length_append, ih, List.length_cons, pkVals, List.length_nil]; omega
theorem pk3_get (l : List Pk) (i j : Nat) (hi : i < l.length) (hj : j < 3) : (l.flatMap pkVals)[i * 3 + j]? = (pkVals l[i])[j]? := by
  induction l generalizing i with
  | nil => simp at hi
  | cons a l ih =>
    cases i with
    | zero => rw [List.flatMap_cons, Nat.zero_mul, Nat.zero_add, List.getElem?_append_left (by simpa [pkVals] using hj)]; rfl
    | succ i =>
      have e : (i + 1) * 3 + j = 3 + (i * 3 + j) := by omega
      have h3 : (pkVals a).length = 3 := rfl
      rw [List.flatMap_cons, e, List.getElem?_append_right (by rw [h3]; omega), h3]
      have e2 : 3 + (i * 3 + j) - 3 = i * 3 + j := by omega
      rw [e2, ih i (by simpa using hi)]
      rfl
theorem PksAt.read {w : World} {base : Nat} {v : Value} {l : List Pk} (h : PksAt w base v l) : PkList w v l := by
  have h0 : w.ownsRow base 31 3 v l.length (l.flatMap pkVals) := h
  rcases h0.2 with ⟨rfl, hn⟩ | ⟨g, cap, cur, rfl, hb, hg, hn, hc, hs, ht⟩
  · exact ⟨none, 0, by rw [hn], fun hl => absurd (List.eq_nil_of_length_eq_zero hn) hl⟩
  · refine ⟨_, cap, rfl, fun _ => ⟨g, rfl, fun i hi => ⟨?_, ?_, ?_⟩⟩⟩
    · have := World.ownsRow.cells h0 (g := g) rfl (i * 3 + 0) _ (pk3_get l i 0 hi (by decide)); rw [Addr.add_lit] at this; simpa using this
    · have := World.ownsRow.cells h0 (g := g) rfl (i * 3 + 1) _ (pk3_get l i 1 hi (by decide)); rw [Addr.add_lit] at this; simpa using this
    · have := World.ownsRow.cells h0 (g := g) rfl (i * 3 + 2) _ (pk3_get l i 2 hi (by decide)); rw [Addr.add_lit] at this; simpa using this

theorem bytes_ne {x y : ByteArray} (h : ¬ x = y) : (x.toList == y.toList) = false := by
  rw [beq_eq_false_iff_ne]
  intro e
  rw [ByteArray.toList_eq, ByteArray.toList_eq] at e
  apply h
  cases x; cases y
  congr
  exact Array.toList_inj.1 e
theorem guard31 : Try.prog.eqGuardType Try.prog.depth 31 = false := by kernel_rfl
theorem eq31 (x y : Pk) (w : World) : (Op.equalIn 10000 31 (.agg #[.int .i64 x.src, .int .i64 x.dst, .string x.body]) (.agg #[.int .i64 y.src, .int .i64 y.dst, .string y.body])).run Try.prog w = .ok (decide (x = y)) w := by
  have u3 := Try.underlying3
  have a3 := Try.isAgg3
  have z3 := Try.sizeOf3
  have u9 := Try.underlying9
  have a9 := Try.isAgg9
  have z9 := Try.sizeOf9
  have hS : Try.prog.underlying 31 = some (.struct (Try.prog.fieldsOf 31)) := by kernel_rfl
  have hp : Try.prog.stoodInHeld 31 = false := by kernel_rfl
  obtain ⟨x0, x1, x2⟩ := x
  obtain ⟨y0, y1, y2⟩ := y
  rw [show (10000 : Nat) = 9999 + 1 from rfl, run_equalIn_agg w 9999 31 _ _ hS hp]
  simp only [Program.fieldsOf, Try.underlying31]
  go_simp
  by_cases h1 : x0 = y0
  · by_cases h2 : x1 = y1
    · by_cases h3 : x2 = y2
      · simp [h1, h2, h3]
      · have := bytes_ne h3
        rw [beq_eq_false_iff_ne] at this
        simp [h1, h2, h3, this]
    · simp [h1, h2]
  · simp [h1]

theorem take_succ_eq {α : Type} {xs ys : List α} {k : Nat} {x : α} (h : xs.take k = ys.take k) {hk : k < xs.length} (hx : x = xs[k]) (hy : some x = ys[k]?) : Hid (xs.take (k + 1) = ys.take (k + 1)) := by
  unfold Hid
  rw [List.take_add_one, List.take_add_one, h, ← hy, List.getElem?_eq_getElem hk, hx]

set_option maxHeartbeats 1000000 in
theorem packets_some (ga gb ca cb : Nat) (xs ys : List Pk) (w : World) (h1 : xs.length ≤ 100000000) (he : xs.length = ys.length)
    (hxs : ∀ i, (h : i < xs.length) → PkAt w ga (i * 3) xs[i]) (hys : ∀ i, (h : i < ys.length) → PkAt w gb (i * 3) ys[i]) :
    Calls Try.prog 18 #[.slice (some ⟨ga, 0, none⟩) xs.length ca, .slice (some ⟨gb, 0, none⟩) ys.length cb] w fun e w' => e = .returned (.bool (decide (xs = ys))) ∧ Upd [] w w' := by
  rw [← he]
  have HE := Lib.hid he
  clear he
  go_enter Try.func18, Try.ntmps18
  go_wp2
  go_loopw [5] (fun i wr => ∃ k : Nat, k ≤ xs.length ∧ i = .int .i64 k ∧ Hid (xs.take k = ys.take k) ∧ ∃ q, wr = w.drewN q) (fun i _ => xs.length - (intOf i).toNat)
  case atStart => exact ⟨0, Nat.zero_le _, rfl, rfl, 0, rfl⟩
  case round =>
    obtain ⟨k, hk, rfl, hp, q, rfl⟩ := hrel
    by_cases hlt : k < xs.length
    · obtain ⟨x, hx, cx⟩ : ∃ x, x = xs[k] ∧ PkAt w ga (k * 3) x := ⟨_, rfl, hxs k hlt⟩
      obtain ⟨y, hy, cy⟩ : ∃ y, some y = ys[k]? ∧ PkAt w gb (k * 3) y :=
        ⟨ys[k]'(by rw [← HE.out]; exact hlt), by simp, hys k (by rw [← HE.out]; exact hlt)⟩
      have HX := Lib.hid hx
      have HY := Lib.hid hy
      clear hx hy hxs hys
      by_cases hxy : x = y
      · subst hxy
        obtain ⟨a0, a1, a2⟩ := cx
        obtain ⟨b0, b1, b2⟩ := cy
        go_wp2
        go_quiet (fail)
        go_wp2
        go_roundw
        case rel => exact ⟨k + 1, by omega, by go_num, take_succ_eq hp.out HX.out HY.out, q + nq, rfl⟩
        case measure => simp [intOf]; omega
      · obtain ⟨x0, x1, x2⟩ := x
        obtain ⟨y0, y1, y2⟩ := y
        obtain ⟨a0, a1, a2⟩ := cx
        obtain ⟨b0, b1, b2⟩ := cy
        simp only at a0 a1 a2 b0 b1 b2
        have hq : ∀ w, (Op.equalIn 10000 31 (.agg #[.int .i64 x0, .int .i64 x1, .string x2]) (.agg #[.int .i64 y0, .int .i64 y1, .string y2])).run Try.prog w = .ok false w := fun w => by rw [eq31 ⟨x0, x1, x2⟩ ⟨y0, y1, y2⟩ w]; simp [hxy]
        have hg := guard31
        have HXY := Lib.hid hxy
        clear hxy
        go_wp2
        go_quiet (fail)
        go_wp2
        go_ret
        have h2 : xs ≠ ys := by
          intro e
          have h3 := HY.out
          rw [← e, List.getElem?_eq_getElem hlt, ← HX.out] at h3
          exact HXY.out (by simpa using h3.symm)
        exact ⟨ret_bool (by simp [h2]), (Upd.drewN _ _ _).drewN' _⟩
    · go_wp2
      go_ret
      have e : k = xs.length := by omega
      have h2 := hp.out
      rw [e, List.take_length, HE.out, List.take_length] at h2
      exact ⟨ret_bool (by simp [h2]), Upd.drewN _ _ _⟩

set_option maxHeartbeats 400000 in
theorem packets_len (a b : Option Addr) (n m ca cb : Nat) (w : World) (hne : ¬ n = m) :
    Calls Try.prog 18 #[.slice a n ca, .slice b m cb] w fun e w' => e = .returned (.bool false) ∧ Upd [] w w' := by
  have hb : ((n : Int) != (m : Int)) = true := by rw [bne_iff_ne]; omega
  go_enter Try.func18, Try.ntmps18
  go_wp2
  go_ret
  exact ⟨rfl, Upd.refl _ _⟩
set_option maxHeartbeats 400000 in
theorem packets_zero (a b : Option Addr) (ca cb : Nat) (w : World) :
    Calls Try.prog 18 #[.slice a 0 ca, .slice b 0 cb] w fun e w' => e = .returned (.bool true) ∧ Upd [] w w' := by
  go_enter Try.func18, Try.ntmps18
  go_wp2
  refine wp_loop_rounds 1 ?_; rw [rounds_succ]
  go_wp2
  go_ret
  exact ⟨rfl, Upd.refl _ _⟩

theorem packets_any {va vb : Value} {xs ys : List Pk} {w : World} (hx : PkList w va xs) (hy : PkList w vb ys) (h1 : xs.length ≤ 100000000) :
    Calls Try.prog 18 #[va, vb] w fun e w' => e = .returned (.bool (decide (xs = ys))) ∧ Upd [] w w' := by
  obtain ⟨a, ca, rfl, hx⟩ := hx
  obtain ⟨b, cb, rfl, hy⟩ := hy
  by_cases he : xs.length = ys.length
  · by_cases hp : xs = []
    · subst hp
      have e2 : ys = [] := List.eq_nil_of_length_eq_zero (by simpa using he.symm)
      subst e2
      exact packets_zero a b ca cb w
    · obtain ⟨ga, rfl, hxs⟩ := hx hp
      obtain ⟨gb, rfl, hys⟩ := hy (by intro e; rw [e] at he; exact hp (List.eq_nil_of_length_eq_zero he))
      exact packets_some ga gb ca cb xs ys w h1 he hxs hys
  · refine (packets_len a b _ _ ca cb w he).mono fun e w' h => ⟨?_, h.2⟩
    rw [h.1]
    exact ret_bool (by rw [eq_comm, decide_eq_false_iff_not]; intro e; exact he (by rw [e]))

/-! ### Count -/
theorem count_take {l : List Pk} {k : Nat} (p : Pk) (hk : k < l.length) : (l.take (k + 1)).count p = (l.take k).count p + if l[k] = p then 1 else 0 := by
  rw [List.take_succ_eq_append_getElem hk, List.count_append]
  simp [List.count_cons, List.count_nil]

set_option maxHeartbeats 1000000 in
theorem count_any {v : Value} {l : List Pk} {w : World} (hx : PkList w v l) (h1 : l.length ≤ 100000000) (p : Pk) :
    Calls Try.prog 26 #[v, p.val] w fun e w' => e = .returned (.int .i64 (l.count p)) ∧ Upd [] w w' := by
  obtain ⟨a, ca, rfl, hx⟩ := hx
  have HX := Lib.hid hx
  obtain ⟨P, hP⟩ : ∃ P, P = p := ⟨_, rfl⟩
  have HP := Lib.hid hP
  obtain ⟨p0, p1, p2⟩ := p
  unfold Pk.val
  simp only
  rw [← hP]
  clear hx hP
  have hg := guard31
  go_enter Try.func26, Try.ntmps26
  go_wp2_with fail
  generalize hW : (w.alloc (Obj.cells #[Value.int .i64 p0, Value.int .i64 p1, Value.string p2] 31)) = W
  have HU : Hid (Upd [] w W) := by rw [← hW]; exact (Upd.refl _ _).alloc _
  have f0 : W.cell? ⟨w.heap.size, 0, none⟩ = some (.int .i64 p0) := by rw [← hW]; simp
  have f1 : W.cell? ⟨w.heap.size, 1, none⟩ = some (.int .i64 p1) := by rw [← hW]; simp
  have f2 : W.cell? ⟨w.heap.size, 2, none⟩ = some (.string p2) := by rw [← hW]; simp
  clear hW
  go_loopw [5, 6] (fun n i wr => ∃ k : Nat, k ≤ l.length ∧ i = .int .i64 k ∧ n = .int .i64 ((l.take k).count P) ∧ ∃ q, wr = W.drewN q) (fun _ i _ => l.length - (intOf i).toNat)
  case atStart => exact ⟨0, Nat.zero_le _, rfl, by simp, 0, rfl⟩
  case round =>
    obtain ⟨k, hk, rfl, rfl, q, rfl⟩ := hrel
    have hcl : (l.take k).count P ≤ 100000000 := Nat.le_trans List.count_le_length (by rw [List.length_take]; omega)
    obtain ⟨c, hc⟩ : ∃ c, c = (l.take k).count P := ⟨_, rfl⟩
    have HC := Lib.hid hc
    rw [← hc] at hcl
    rw [← hc]
    clear hc
    by_cases hlt : k < l.length
    · obtain ⟨b, ha, hcs⟩ := HX.out (by intro e; rw [e] at hlt; simp at hlt)
      subst ha
      have hck := (hcs k hlt).upd HU.out (by simp)
      have hct := count_take P hlt
      obtain ⟨y, hy⟩ : ∃ y, y = l[k] := ⟨_, rfl⟩
      rw [← hy] at hck hct
      rw [← HC.out] at hct
      have HCT := Lib.hid hct
      clear hy hct hcs
      obtain ⟨y0, y1, y2⟩ := y
      obtain ⟨g0, g1, g2⟩ := hck
      simp only at g0 g1 g2
      by_cases hyp : (⟨y0, y1, y2⟩ : Pk) = P
      · have hq : ∀ w, (Op.equalIn 10000 31 (.agg #[.int .i64 y0, .int .i64 y1, .string y2]) (.agg #[.int .i64 p0, .int .i64 p1, .string p2])).run Try.prog w = .ok true w := fun w => by rw [eq31 ⟨y0, y1, y2⟩ ⟨p0, p1, p2⟩ w, ← HP.out]; simp [hyp]
        have HE : Hid ((l.take (k + 1)).count P = c + 1) := by rw [Hid, HCT.out, if_pos hyp]
        clear hyp
        go_wp2
        go_quiet (fail)
        go_wp2
        go_roundw
        case rel => exact ⟨k + 1, by omega, by go_num, by rw [HE.out]; go_num, q + nq, rfl⟩
        case measure => simp [intOf]; omega
      · have hq : ∀ w, (Op.equalIn 10000 31 (.agg #[.int .i64 y0, .int .i64 y1, .string y2]) (.agg #[.int .i64 p0, .int .i64 p1, .string p2])).run Try.prog w = .ok false w := fun w => by rw [eq31 ⟨y0, y1, y2⟩ ⟨p0, p1, p2⟩ w, ← HP.out]; simp [hyp]
        have HE : Hid ((l.take (k + 1)).count P = c) := by rw [Hid, HCT.out, if_neg hyp]; rfl
        clear hyp
        go_wp2
        go_quiet (fail)
        go_wp2
        go_roundw
        case rel => exact ⟨k + 1, by omega, by go_num, by rw [HE.out], q + nq, rfl⟩
        case measure => simp [intOf]; omega
    · have hfin : c = l.count P := by rw [HC.out, List.take_of_length_le (by omega)]
      have HFN := Lib.hid hfin
      clear hfin
      go_wp2
      go_ret
      exact ⟨ret_int (by rw [HFN.out]), HU.out.trans (Upd.drewN _ _ _)⟩
end Go.Proofs.Ytlmfgdibodpniaa
