/- head, walked. -/
import Derived.Test.YtcihncgajkogkaaHeadE
namespace Go.Proofs.Ytcihncgajkogkaa
open Go.RowKit

set_option maxRecDepth 100000 in
set_option maxHeartbeats 4000000 in
theorem head_any (w : World) : Calls Try.prog 6 #[] w fun e w' => e = .returned (.bool true) ∧ Upd [] w w' := by
  go_enter Try.func6, Try.ntmps6
  go_wp2_with fail
  have c : Calls Try.prog 9 #[.int .i64 2] w _ := live_new w w (Upd.refl _ _) 2 (by decide) (by decide)
  refine c.mono ?_
  rintro e w1 ⟨B, rfl, hl⟩
  clear c
  have H1 := Lib.hid hl
  clear hl
  go_wp2_with fail
  have c := fill_any ⟨#[97]⟩ w1 (by decide)
  rw [fill_a] at c
  refine c.mono ?_
  rintro e w2 ⟨rfl, hu⟩
  clear c
  have H2 := Lib.hid (H1.out.keep hu)
  clear hu H1
  go_wp2_with fail
  have c := live_write H2.out q1 0 (rep32 97) (by decide)
  rw [e1] at c
  refine c.mono ?_
  rintro e w3 ⟨rfl, hl⟩
  clear c
  have H3 : Hid (Live w w3 B hs1) := hl
  clear hl H2
  go_wp2_with fail
  have c := live_sync H3.out (Nat.le_of_lt q2)
  rw [e2] at c
  refine c.mono ?_
  rintro e w4 ⟨rfl, hl⟩
  clear c
  have H4 : Hid (Live w w4 B hs2) := hl
  clear hl H3
  go_wp2_with fail
  have c := fill_any ⟨#[98]⟩ w4 (by decide)
  rw [fill_b] at c
  refine c.mono ?_
  rintro e w5 ⟨rfl, hu⟩
  clear c
  have H5 := Lib.hid (H4.out.keep hu)
  clear hu H4
  go_wp2_with fail
  have c := live_write H5.out q3 0 (rep32 98) (by decide)
  rw [e3] at c
  refine c.mono ?_
  rintro e w6 ⟨rfl, hl⟩
  clear c
  have H6 : Hid (Live w w6 B hs3) := hl
  clear hl H5
  go_wp2_with fail
  have c := live_read H6.out (Nat.le_of_lt q4) 0
  rw [e4] at c
  refine c.mono ?_
  rintro e w7 ⟨rfl, hu⟩
  clear c
  have H7 := Lib.hid (H6.out.keep hu)
  clear hu H6
  go_wp2_with fail
  have c := live_fail H7.out (Nat.le_of_lt q4) 0 2
  refine c.mono ?_
  rintro e w8 ⟨rfl, hl⟩
  clear c
  have H8 : Hid (Live w w8 B hs4) := hl
  clear hl H7
  go_wp2_with fail
  have c := live_sync H8.out (Nat.le_of_lt q5)
  rw [e5] at c
  refine c.mono ?_
  rintro e w9 ⟨rfl, hl⟩
  clear c
  have H9 : Hid (Live w w9 B hs4') := hl
  clear hl H8
  go_wp2_with fail
  have c := live_start H9.out
  refine c.mono ?_
  rintro e w10 ⟨rfl, hl⟩
  clear c
  have H10 : Hid (Live w w10 B hs5) := hl
  clear hl H9
  go_wp2_with fail
  have c := live_read H10.out (Nat.le_of_lt q6) 0
  rw [e6] at c
  refine c.mono ?_
  rintro e w11 ⟨rfl, hu⟩
  clear c
  have H11 := Lib.hid (H10.out.keep hu)
  clear hu H10
  go_wp2_with fail
  have c := live_read H11.out (Nat.le_of_lt q6) 1
  rw [e7] at c
  refine c.mono ?_
  rintro e w12 ⟨rfl, hu⟩
  clear c
  have H12 := Lib.hid (H11.out.keep hu)
  clear hu H11
  go_wp2_with fail
  have c := live_read H12.out (Nat.le_of_lt q6) 2
  rw [e8] at c
  refine c.mono ?_
  rintro e w13 ⟨rfl, hu⟩
  clear c
  have H13 := Lib.hid (H12.out.keep hu)
  clear hu H12
  go_wp2_with fail
  have c := live_write H13.out q6 1 short (by decide)
  rw [e9] at c
  refine c.mono ?_
  rintro e w14 ⟨rfl, hl⟩
  clear c
  have H14 : Hid (Live w w14 B hs6) := hl
  clear hl H13
  go_wp2_with fail
  refine (nil_fail 1 1 _).mono ?_
  rintro e w15 ⟨rfl, rfl⟩
  go_wp2_with fail
  refine (nil_start _).mono ?_
  rintro e w16 ⟨rfl, rfl⟩
  go_wp2_with fail
  refine (nil_arm 0 1 1 _).mono ?_
  rintro e w17 ⟨rfl, rfl⟩
  go_wp2_with fail
  have HU := Lib.hid H14.out.upd
  clear H14
  have c : Calls Try.prog 9 #[.int .i64 1] w14 _ := live_new w w14 HU.out 1 (by decide) (by decide)
  refine c.mono ?_
  rintro e w18 ⟨B, rfl, hl⟩
  clear c HU
  have H18 := Lib.hid hl
  clear hl
  go_wp2_with fail
  have c := live_arm H18.out 1 1 2 (by decide)
  refine c.mono ?_
  rintro e w19 ⟨rfl, hl⟩
  clear c
  have H19 : Hid (Live w w19 B ks1) := hl
  clear hl H18
  go_wp2_with fail
  have c := fill_any ⟨#[97]⟩ w19 (by decide)
  rw [fill_a] at c
  refine c.mono ?_
  rintro e w20 ⟨rfl, hu⟩
  clear c
  have H20 := Lib.hid (H19.out.keep hu)
  clear hu H19
  go_wp2_with fail
  have c := live_write H20.out kq1 0 (rep32 97) (by decide)
  rw [k1] at c
  refine c.mono ?_
  rintro e w21 ⟨rfl, hl⟩
  clear c
  have H21 : Hid (Live w w21 B ks2) := hl
  clear hl H20
  go_wp2_with fail
  have c := fill_any ⟨#[98]⟩ w21 (by decide)
  rw [fill_b] at c
  refine c.mono ?_
  rintro e w22 ⟨rfl, hu⟩
  clear c
  have H22 := Lib.hid (H21.out.keep hu)
  clear hu H21
  go_wp2_with fail
  have c := live_write H22.out kq2 0 (rep32 98) (by decide)
  rw [k2] at c
  refine c.mono ?_
  rintro e w23 ⟨rfl, hl⟩
  clear c
  have H23 : Hid (Live w w23 B ks3) := hl
  clear hl H22
  go_wp2_with fail
  have c := live_start H23.out
  refine c.mono ?_
  rintro e w24 ⟨rfl, hl⟩
  clear c
  have H24 : Hid (Live w w24 B ks4) := hl
  clear hl H23
  go_wp2_with fail
  have c := live_read H24.out (Nat.le_of_lt kq4) 0
  rw [k4] at c
  refine c.mono ?_
  rintro e w25 ⟨rfl, hu⟩
  clear c
  have H25 := Lib.hid (H24.out.keep hu)
  clear hu H24
  go_wp2_with fail
  have ht := torn_eq
  have c := fill_any ⟨#[97]⟩ w25 (by decide)
  rw [fill_a] at c
  refine c.mono ?_
  rintro e w26 ⟨rfl, hu⟩
  clear c
  have H26 := Lib.hid (H25.out.keep hu)
  clear hu H25
  go_wp2_with fail
  have c := fill_any ⟨#[98]⟩ w26 (by decide)
  rw [fill_b] at c
  refine c.mono ?_
  rintro e w27 ⟨rfl, hu⟩
  clear c
  have H27 := Lib.hid (H26.out.keep hu)
  clear hu H26
  go_wp2_with fail
  have c := fill_any ⟨#[97]⟩ w27 (by decide)
  rw [fill_a] at c
  refine c.mono ?_
  rintro e w28 ⟨rfl, hu⟩
  clear c
  have H28 := Lib.hid (H27.out.keep hu)
  clear hu H27
  go_wp2_with fail
  have c := fill_any ⟨#[0]⟩ w28 (by decide)
  rw [fill_0] at c
  refine c.mono ?_
  rintro e w29 ⟨rfl, hu⟩
  clear c
  have H29 := Lib.hid (H28.out.keep hu)
  clear hu H28
  go_wp2_with fail
  refine (nil_sync _).mono ?_
  rintro e w30 ⟨rfl, rfl⟩
  go_wp2_with fail
  have c := fill_any ⟨#[97]⟩ w29 (by decide)
  rw [fill_a] at c
  refine c.mono ?_
  rintro e w31 ⟨rfl, hu⟩
  clear c
  have H31 := Lib.hid (H29.out.keep hu)
  clear hu H29
  go_wp2_with fail
  have c := nil_write 0 (rep32 97) w31
  refine c.mono ?_
  rintro e w32 ⟨rfl, hu⟩
  clear c
  have H32 := Lib.hid (H31.out.keep hu)
  clear hu H31
  go_wp2_with fail
  refine (new_low 0 _ (by decide)).mono ?_
  rintro e w33 ⟨rfl, rfl⟩
  go_wp2_with fail
  refine (new_high 4001 _ (by decide)).mono ?_
  rintro e w34 ⟨rfl, rfl⟩
  go_wp2_with fail
  go_wp2
  go_ret
  exact ⟨rfl, H32.out.upd⟩

end Go.Proofs.Ytcihncgajkogkaa
