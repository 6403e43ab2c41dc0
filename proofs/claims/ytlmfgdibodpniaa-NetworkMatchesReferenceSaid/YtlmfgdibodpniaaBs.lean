/- slices.BinarySearchFunc over copies. -/
import Derived.Test.YtlmfgdibodpniaaCmp
namespace Go.Proofs.Ytlmfgdibodpniaa
open Go.RowKit

structure CpAt (w : World) (b o : Nat) (c : Cp) : Prop where
  c0 : w.cell? ⟨b, o, none⟩ = some (.int .i64 c.p.src)
  c1 : w.cell? ⟨b, o + 1, none⟩ = some (.int .i64 c.p.dst)
  c2 : w.cell? ⟨b, o + 2, none⟩ = some (.string c.p.body)
  c3 : w.cell? ⟨b, o + 3, none⟩ = some (.int .i64 c.t)
  c4 : w.cell? ⟨b, o + 4, none⟩ = some (.int .i64 c.k)

theorem CpAt.upd {F : List Nat} {w w' : World} {b o : Nat} {a : Cp} (h : CpAt w b o a) (hu : Upd F w w') (hb : b ∉ F) : CpAt w' b o a :=
  ⟨hu.cell h.c0 hb, hu.cell h.c1 hb, hu.cell h.c2 hb, hu.cell h.c3 hb, hu.cell h.c4 hb⟩

def BsPost (pos : Nat) (w : World) (e : Ending) (w' : World) : Prop := ∃ r : Bool, e = .returned (.tuple #[.int .i64 pos, .bool r]) ∧ Upd [] w w'

/-- What the search knows of its list. -/
structure Spot (l : List Cp) (x : Cp) (pos : Nat) : Prop where
  le : pos ≤ l.length
  lo : ∀ i, (h : i < l.length) → i < pos → cmpC l[i] x < 0
  hi : ∀ i, (h : i < l.length) → pos ≤ i → ¬ cmpC l[i] x < 0

theorem closure_raw (a b : Cp) {a0 a1 b0 b1 : Int} {a2 b2 : ByteArray} {at_ ak bt bk : Nat} (ha : Hid (a.val = .agg #[.int .i64 a0, .int .i64 a1, .string a2, .int .i64 at_, .int .i64 ak])) (hb : Hid (b.val = .agg #[.int .i64 b0, .int .i64 b1, .string b2, .int .i64 bt, .int .i64 bk])) (v : Int) (hv : Hid (v = cmpC a b)) (w : World) :
    Calls Try.prog 32 #[.agg #[.int .i64 a0, .int .i64 a1, .string a2, .int .i64 at_, .int .i64 ak], .agg #[.int .i64 b0, .int .i64 b1, .string b2, .int .i64 bt, .int .i64 bk]] w fun e w' => e = .returned (.int .i64 v) ∧ Upd [] w w' := by
  have := closure_any a b w
  rwa [ha.out, hb.out, ← hv.out] at this

set_option maxHeartbeats 2000000 in
theorem bsearch_some (b o cap : Nat) (l : List Cp) (x : Cp) (w : World) (hl : l.length ≤ 4000) (H : ∀ i, (h : i < l.length) → CpAt w b (o + i * 5) l[i])
    (pos : Nat) (hs : Spot l x pos) :
    Calls Try.prog 31 #[.slice (some ⟨b, o, none⟩) l.length cap, x.val, .func (.func 32) #[] #[]] w (BsPost pos w) := by
  obtain ⟨⟨x0, x1, x2⟩, xt, xk⟩ := x
  obtain ⟨X, hX⟩ : ∃ X : Cp, X = ⟨⟨x0, x1, x2⟩, xt, xk⟩ := ⟨_, rfl⟩
  rw [← hX] at hs
  have HXV : Hid (X.val = .agg #[.int .i64 x0, .int .i64 x1, .string x2, .int .i64 xt, .int .i64 xk]) := by rw [hX]; rfl
  have HS := Lib.hid hs
  have HH := Lib.hid H
  have hp := hs.le
  clear hX hs H
  unfold Cp.val
  simp only
  go_enter Try.func31, Try.ntmps31
  go_wp2_with fail
  generalize hW : (w.alloc (Obj.cells #[Value.int .i64 x0, Value.int .i64 x1, Value.string x2, Value.int .i64 xt, Value.int .i64 xk] 65)) = W
  have HU : Hid (Upd [] w W) := by rw [← hW]; exact (Upd.refl _ _).alloc _
  have f0 : W.cell? ⟨w.heap.size, 0, none⟩ = some (.int .i64 x0) := by rw [← hW]; simp
  have f1 : W.cell? ⟨w.heap.size, 1, none⟩ = some (.int .i64 x1) := by rw [← hW]; simp
  have f2 : W.cell? ⟨w.heap.size, 2, none⟩ = some (.string x2) := by rw [← hW]; simp
  have f3 : W.cell? ⟨w.heap.size, 3, none⟩ = some (.int .i64 xt) := by rw [← hW]; simp
  have f4 : W.cell? ⟨w.heap.size, 4, none⟩ = some (.int .i64 xk) := by rw [← hW]; simp
  clear hW
  go_loopw [9, 10] (fun i j wr => ∃ a c : Nat, a ≤ pos ∧ pos ≤ c ∧ c ≤ l.length ∧ i = .int .i64 a ∧ j = .int .i64 c ∧ Upd [] W wr) (fun i j _ => (intOf j - intOf i).toNat)
  case atStart => exact ⟨0, l.length, Nat.zero_le _, hp, Nat.le_refl _, rfl, rfl, Upd.refl _ _⟩
  case round =>
    obtain ⟨a, c, ha, hc, hcl, rfl, rfl, hu⟩ := hrel
    have HU2 := Lib.hid hu
    by_cases hlt : a < c
    · obtain ⟨m, hm⟩ : ∃ m, m = (a + c) / 2 := ⟨_, rfl⟩
      have hm1 : a ≤ m := by omega
      have hm2 : m < c := by omega
      have hm3 : m < l.length := by omega
      have hmI : ((a : Int) + (c : Int)) / 2 = (m : Int) := by omega
      clear hm
      have hb5 : b ∉ ([] : List Nat) := by simp
      have hcp := ((HH.out m hm3).upd (HU.out.trans HU2.out) hb5)
      obtain ⟨y, hy⟩ : ∃ y, y = l[m] := ⟨_, rfl⟩
      have hlo := HS.out.lo m hm3
      have hhi := HS.out.hi m hm3
      rw [← hy] at hcp hlo hhi
      clear hy hb5
      obtain ⟨v, hv⟩ : ∃ v, v = cmpC y X := ⟨_, rfl⟩
      rw [← hv] at hlo hhi
      have HV := Lib.hid hv
      have HLO := Lib.hid hlo
      have HHI := Lib.hid hhi
      clear hv hlo hhi
      obtain ⟨⟨y0, y1, y2⟩, yt, yk⟩ := y
      obtain ⟨g0, g1, g2, g3, g4⟩ := hcp
      simp only at g0 g1 g2 g3 g4
      have e0 := hu.cell f0 (by simp)
      have e1 := hu.cell f1 (by simp)
      have e2 := hu.cell f2 (by simp)
      have e3 := hu.cell f3 (by simp)
      have e4 := hu.cell f4 (by simp)
      clear hu f0 f1 f2 f3 f4
      have r0 := fun p : After wr => p.cell g0
      have r1 := fun p : After wr => p.cell g1
      have r2 := fun p : After wr => p.cell g2
      have r3 := fun p : After wr => p.cell g3
      have r4 := fun p : After wr => p.cell g4
      have s0 := fun p : After wr => p.cell e0
      have s1 := fun p : After wr => p.cell e1
      have s2 := fun p : After wr => p.cell e2
      have s3 := fun p : After wr => p.cell e3
      have s4 := fun p : After wr => p.cell e4
      have HYV : Hid (Cp.val ⟨⟨y0, y1, y2⟩, yt, yk⟩ = .agg #[.int .i64 y0, .int .i64 y1, .string y2, .int .i64 yt, .int .i64 yk]) := rfl
      clear g0 g1 g2 g3 g4 e0 e1 e2 e3 e4
      by_cases hneg : v < 0
      · have hmp : m + 1 ≤ pos := by
          rcases Nat.lt_or_ge m pos with h | h
          · omega
          · exact absurd hneg (HHI.out h)
        go_wp2_with fail
        refine region_after 7 (by kernel_rfl) (by kernel_rfl) ?_
        simp only [List.take_succ_cons, List.take_zero, List.drop_succ_cons, List.drop_zero]
        repeat (go_big_quiet_step ((go_at_call 32; exact After.call _ (closure_raw _ _ HYV HXV v HV _))))
        refine wpQuiet_nil ?_
        rintro _ ⟨p, rfl⟩
        go_wp2
        go_roundw
        case rel => exact ⟨m + 1, c, hmp, hc, hcl, by go_num, rfl, HU2.out.trans p.upd⟩
        case measure => simp [intOf]; omega
      · have hmp : pos ≤ m := by
          rcases Nat.lt_or_ge m pos with h | h
          · exact absurd (HLO.out h) hneg
          · exact h
        go_wp2_with fail
        refine region_after 7 (by kernel_rfl) (by kernel_rfl) ?_
        simp only [List.take_succ_cons, List.take_zero, List.drop_succ_cons, List.drop_zero]
        repeat (go_big_quiet_step ((go_at_call 32; exact After.call _ (closure_raw _ _ HYV HXV v HV _))))
        refine wpQuiet_nil ?_
        rintro _ ⟨p, rfl⟩
        go_wp2
        go_roundw
        case rel => exact ⟨a, m, ha, hmp, by omega, rfl, rfl, HU2.out.trans p.upd⟩
        case measure => simp [intOf]; omega
    · obtain rfl : a = pos := by omega
      obtain rfl : c = a := by omega
      obtain ⟨m, hm⟩ : ∃ m, m = c := ⟨_, rfl⟩
      by_cases hin : c < l.length
      · have hcp := ((HH.out c hin).upd (HU.out.trans HU2.out) (by simp))
        obtain ⟨y, hy⟩ : ∃ y, y = l[c] := ⟨_, rfl⟩
        rw [← hy] at hcp
        clear hy
        obtain ⟨v, hv⟩ : ∃ v, v = cmpC y X := ⟨_, rfl⟩
        have HV := Lib.hid hv
        clear hv hm
        obtain ⟨⟨y0, y1, y2⟩, yt, yk⟩ := y
        obtain ⟨g0, g1, g2, g3, g4⟩ := hcp
        simp only at g0 g1 g2 g3 g4
        have e0 := hu.cell f0 (by simp)
        have e1 := hu.cell f1 (by simp)
        have e2 := hu.cell f2 (by simp)
        have e3 := hu.cell f3 (by simp)
        have e4 := hu.cell f4 (by simp)
        clear hu f0 f1 f2 f3 f4
        have r0 := fun p : After wr => p.cell g0
        have r1 := fun p : After wr => p.cell g1
        have r2 := fun p : After wr => p.cell g2
        have r3 := fun p : After wr => p.cell g3
        have r4 := fun p : After wr => p.cell g4
        have s0 := fun p : After wr => p.cell e0
        have s1 := fun p : After wr => p.cell e1
        have s2 := fun p : After wr => p.cell e2
        have s3 := fun p : After wr => p.cell e3
        have s4 := fun p : After wr => p.cell e4
        have HYV : Hid (Cp.val ⟨⟨y0, y1, y2⟩, yt, yk⟩ = .agg #[.int .i64 y0, .int .i64 y1, .string y2, .int .i64 yt, .int .i64 yk]) := rfl
        clear g0 g1 g2 g3 g4 e0 e1 e2 e3 e4 hlt
        go_wp2_with fail
        refine region_all (by kernel_rfl) (by kernel_rfl) ?_
        repeat (go_big_quiet_step ((go_at_call 32; exact After.call _ (closure_raw _ _ HYV HXV v HV _))))
        refine wpQuiet_nil ?_
        rintro _ ⟨p, rfl⟩
        go_wp2
        go_ret2
        exact ⟨_, rfl, HU.out.trans (HU2.out.trans p.upd)⟩
      · have hd : decide ((c : Int) < (l.length : Int)) = false := by simpa using hin
        clear hu f0 f1 f2 f3 f4 hm
        go_wp2_with fail
        go_quiet (fail)
        go_wp2
        go_ret2
        exact ⟨_, rfl, HU.out.trans (HU2.out.drewN' _)⟩
end Go.Proofs.Ytlmfgdibodpniaa
