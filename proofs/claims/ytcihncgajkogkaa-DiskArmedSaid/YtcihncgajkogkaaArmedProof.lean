/-
  PROVED: for every number of sectors, all lists of operations, and every arming, estoppellaw44.DiskArmed returns true, and its arguments read afterwards as they read before. No condition.
-/
import Derived.Test.YtcihncgajkogkaaArmed
import Derived.Test.YtcihncgajkogkaaOpen
namespace Go.Proofs.Ytcihncgajkogkaa
open Go.ChangeShapes Go.WideShapes Go.ChangeAt Go.RowKit

theorem Try.own : ownKnob Try.prog.godebug = none := by kernel_rfl
theorem Try.laidOut : laidOutB Try.prog = true := by kernel_rfl

set_option maxRecDepth 100000 in
set_option maxHeartbeats 1000000 in
theorem armed_short (w : World) (x af nw nb : Int) (a1 a2 : Option Addr) (c1 c2 : Nat) (L1 L2 : List ActR) (A1 : ArgActs w a1 L1) (A2 : ArgActs w a2 L2) (h : ¬ (okB L1 = true ∧ okB L2 = true)) :
    Calls Try.prog 5 #[.int .u8 x, .slice a1 L1.length c1, .slice a2 L2.length c2, .int .i64 af, .int .i64 nw, .int .i64 nb] w fun e w' => e = .returned (.bool true) ∧ Upd [] w w' := by
  by_cases k1 : okB L1 = true
  · have k2' : okB L2 = false := by
      cases hk : okB L2 with
      | true => exact absurd ⟨k1, hk⟩ h
      | false => rfl
    have HO1 : Hid (∀ w', Upd [] w w' → Calls Try.prog 7 #[.slice a1 L1.length c1] w' fun e w'' => e = .returned (.bool true) ∧ w' = w'') := by
      intro w' hu; have := ok_gen a1 L1 c1 w' (A1.upd hu); rwa [k1] at this
    have HO2 : Hid (∀ w', Upd [] w w' → Calls Try.prog 7 #[.slice a2 L2.length c2] w' fun e w'' => e = .returned (.bool false) ∧ w' = w'') := by
      intro w' hu; have := ok_gen a2 L2 c2 w' (A2.upd hu); rwa [k2'] at this
    clear A1 A2 k1 k2' h
    go_enter Try.func5, Try.ntmps5
    go_wp2_with fail
    refine (head_any w).mono ?_
    rintro e w1 ⟨rfl, hu1⟩
    have HU1 := Lib.hid hu1
    clear hu1
    go_wp2_with fail
    refine (HO1.out w1 HU1.out).mono ?_
    rintro e w2 ⟨rfl, rfl⟩
    go_wp2_with fail
    refine (HO2.out w1 HU1.out).mono ?_
    rintro e w2 ⟨rfl, rfl⟩
    go_wp2
    go_ret
    exact ⟨rfl, HU1.out⟩
  · have k1' : okB L1 = false := by simpa using k1
    have HO1 : Hid (∀ w', Upd [] w w' → Calls Try.prog 7 #[.slice a1 L1.length c1] w' fun e w'' => e = .returned (.bool false) ∧ w' = w'') := by
      intro w' hu; have := ok_gen a1 L1 c1 w' (A1.upd hu); rwa [k1'] at this
    clear A1 A2 k1 k1' h
    go_enter Try.func5, Try.ntmps5
    go_wp2_with fail
    refine (head_any w).mono ?_
    rintro e w1 ⟨rfl, hu1⟩
    have HU1 := Lib.hid hu1
    clear hu1
    go_wp2_with fail
    refine (HO1.out w1 HU1.out).mono ?_
    rintro e w2 ⟨rfl, rfl⟩
    go_wp2
    go_ret
    exact ⟨rfl, HU1.out⟩

set_option maxRecDepth 100000 in
theorem armed_lifted (os : Os) (started : os.Started) (H : Type) (enc : TypeId × Value → H) :
    ReturnsInHanded {} Try.checked os 5 .any (Rows.diskArmedSpec.pre6 enc Try.prog Try.f5 Rows.diskArmedRow.domain false) (Rows.diskArmedSpec.post enc Try.prog Try.f5 false true false false) := by
  refine returnsInHanded_of_change (C := Try.checked) Try.own started (by kernel_rfl) Try.func5
    (ChangeSpec.witness6 (enc := enc) (C := Try.checked) false ⟨#[], #[.int .u8 0, .slice none 0 0, .slice none 0 0, .int .i64 0, .int .i64 0, .int .i64 0], []⟩ 8 (by kernel_rfl) (by kernel_rfl) (by kernel_rfl) (by kernel_rfl)) ?_
  intro W base args ds gs before hval0 hW hcnd _
  have hval : ∀ (j : Nat) t v, Try.f5.params[j]? = some t → args[j]? = some v → Value.okWide Try.prog W .any base t v := hval0
  have hW' := hW
  obtain ⟨p, q, hA0, hV, rfl, hfz, hnd⟩ := hW
  have hA : DataW.TrodAll enc Try.prog W 0 (fun _ => true) true Try.f5.params.toList args.toList ds p := hA0
  rw [Try.params5] at hA hval
  obtain ⟨v0, vs0, d0, ds0, p0, q0, hargs, rfl, rfl, h0, r0⟩ := trodAll_cons hA
  obtain ⟨v1, vs1, d1, ds1, p1, q1, rfl, rfl, rfl, h1, r1⟩ := trodAll_cons r0
  obtain ⟨v2, vs2, d2, ds2, p2, q2, rfl, rfl, rfl, h2, r2⟩ := trodAll_cons r1
  obtain ⟨v3, vs3, d3, ds3, p3, q3, rfl, rfl, rfl, h3, r3⟩ := trodAll_cons r2
  obtain ⟨v4, vs4, d4, ds4, p4, q4, rfl, rfl, rfl, h4, r4⟩ := trodAll_cons r3
  obtain ⟨v5, vs5, d5, ds5, p5, q5, rfl, rfl, rfl, h5, r5⟩ := trodAll_cons r4
  obtain ⟨rfl, rfl, rfl⟩ := trodAll_nil r5
  obtain rfl : args = #[v0, v1, v2, v3, v4, v5] := by cases args; simp_all
  obtain ⟨rfl, rfl⟩ := trodVars_none hV
  have k1 := h1
  have lt1 : ∀ x ∈ p1, x.block < W.heap.size := by obtain ⟨m, hm⟩ := k1; exact DataW.trod_lt m _ _ _ hm
  have k2 := h2
  have lt2 : ∀ x ∈ p2, x.block < W.heap.size := by obtain ⟨m, hm⟩ := k2; exact DataW.trod_lt m _ _ _ hm
  obtain ⟨a1, c1, L1, rfl, A1⟩ := open_acts (okWide_slice Try.underlying22 (hval 1 22 v1 rfl rfl)) h1
  obtain ⟨a2, c2, L2, rfl, A2⟩ := open_acts (okWide_slice Try.underlying22 (hval 2 22 v2 rfl rfl)) h2
  obtain ⟨x, rfl, rfl, rfl, w0⟩ := open_int Try.underlying5 (hval 0 5 v0 rfl rfl) h0
  obtain ⟨af, rfl, rfl, rfl, w3⟩ := open_int Try.underlying3 (hval 3 3 v3 rfl rfl) h3
  obtain ⟨nw, rfl, rfl, rfl, w4⟩ := open_int Try.underlying3 (hval 4 3 v4 rfl rfl) h4
  obtain ⟨nb, rfl, rfl, rfl, w5⟩ := open_int Try.underlying3 (hval 5 3 v5 rfl rfl) h5
  clear hA0 hval0
  have b0 := bounds_u8 w0
  have b3 := bounds_i64 w3
  have walk : Calls Try.prog 5 #[.int .u8 x, .slice a1 L1.length c1, .slice a2 L2.length c2, .int .i64 af, .int .i64 nw, .int .i64 nb] W fun e w' => e = .returned (.bool true) ∧ Upd [] W w' := by
    by_cases h : okB L1 = true ∧ okB L2 = true
    · exact armed_main W x af nw nb b0.1 b0.2 b3.2 b3.1 a1 a2 c1 c2 L1 L2 A1 A2 h.1 h.2
    · exact armed_short W x af nw nb a1 a2 c1 c2 L1 L2 A1 A2 h
  refine walk.mono fun e W' ⟨he, hu⟩ => ?_
  have bel : Below W.heap.size W W' := hu.below (Nat.le_refl _) (by simp)
  subst he
  exact ⟨_, rfl, _, _, _, [], _, [], hW', trodAll_mk1 (shut_bool Try.underlying4 _), (trodAll_cons_mk (shut_int Try.underlying5 w0) (trodAll_cons_mk (Below.trod Try.laidOut (by kernel_rfl) (of_decide_eq_true (by kernel_rfl)) k1 bel lt1) (trodAll_cons_mk (Below.trod Try.laidOut (by kernel_rfl) (of_decide_eq_true (by kernel_rfl)) k2 bel lt2) (trodAll_cons_mk (shut_int Try.underlying3 w3) (trodAll_cons_mk (shut_int Try.underlying3 w4) (trodAll_cons_mk (shut_int Try.underlying3 w5) trodAll_mk0)))))), rfl, bel.frame _, fun h => by cases h⟩

theorem armed_holds : Rows.DiskArmedSaid :=
  OpenClaim.holds_of_wide 5 Try.f5 rfl rfl rfl rfl rfl rfl rfl ⟨rfl, rfl, rfl, rfl, rfl⟩ rfl rfl rfl rfl rfl (by kernel_rfl) Try.func5 (by kernel_rfl)
    (of_decide_eq_true (by kernel_rfl)) (by unfold Func.isWrapper; first | (rw [if_pos (by decide +kernel)]; kernel_rfl) | (rw [if_neg (by decide +kernel)]; exact ⟨rfl, rfl⟩))
    (fun os started H enc _ => armed_lifted os started H enc)
#print axioms armed_holds
end Go.Proofs.Ytcihncgajkogkaa
