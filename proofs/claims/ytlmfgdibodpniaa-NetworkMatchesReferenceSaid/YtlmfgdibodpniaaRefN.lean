/- The reference network, walked: New. -/
import Derived.Test.YtlmfgdibodpniaaRefC
namespace Go.Proofs.Ytlmfgdibodpniaa
open Go.RowKit

def RNewPost (n : Nat) (l : List Fa) (w : World) (e : Ending) (w' : World) : Prop := ∃ f : RFoot, e = .returned (.pointer (some ⟨f.B, 0, none⟩)) ∧ RefAt w' w.heap.size f (RS.new n l) ∧ Upd [] w w'

theorem FatesAt.inn {w : World} {b g c n : Nat} {L : List Fa} (h : FatesAt w b (.slice (some ⟨g, 0, none⟩) n c) L) (hn : n = L.length) (hne : L ≠ []) : FatesIn w (.slice (some ⟨g, 0, none⟩) n c) L (some g) := by
  subst hn
  have h0 : w.ownsRow b 51 3 (.slice (some ⟨g, 0, none⟩) L.length c) L.length (L.flatMap faVals) := h
  refine ⟨_, c, rfl, h.cap, .inr ⟨g, 0, rfl, rfl, hne, fasAt_of fun j u hj => ?_⟩⟩
  have := World.ownsRow.cells h0 (g := g) rfl j u hj
  rw [Addr.add_lit] at this
  exact this

theorem rnew_fin {w w1 : World} {n : Nat} {l : List Fa} {fv : Value} {F : Option Nat} (hf : FatesIn w1 fv l F) (hF : ∀ g, F = some g → w.heap.size ≤ g) (hu : Upd [] w w1) :
    RNewPost n l w (.returned (.pointer (some ⟨w1.heap.size, 0, none⟩))) (w1.alloc (refObj n fv 0 (.slice none 0 0))) := by
  have hu1 : Upd [] w1 (w1.alloc (refObj n fv 0 (.slice none 0 0))) := (Upd.refl _ _).alloc _
  refine ⟨⟨w1.heap.size, none, F⟩, rfl, ⟨?_, ?_, ?_, fv, .slice none 0 0, heap_alloc_new _ _, rfl, CpsAt.nil _ _, hf.upd hu1 (by simp)⟩, hu.trans hu1⟩
  · intro g hg; cases hg
  · intro g hg e
    have := hf.lt g hg
    simp only at e
    omega
  · intro k hk
    rcases RFoot.mem.1 hk with rfl | hk | hk
    · exact hu.size
    · cases hk
    · exact hF k hk

set_option maxHeartbeats 4000000 in
theorem rnew_ok {w : World} (n : Nat) (hn : 1 ≤ n) (hn12 : n ≤ 12) (a : Option Addr) (cap : Nat) (l : List Fa) (H : ArgFates w a l) (h500 : l.length ≤ 1000) (hr : rightB l = true) :
    Calls Try.prog 13 #[.int .i64 n, .slice a l.length cap] w (RNewPost n l w) := by
  have HH := Lib.hid H
  have HR : Hid (∀ k, (h : k < l.length) → l[k].right = true) := fun k h => List.all_eq_true.1 hr _ (List.getElem_mem h)
  clear H hr
  go_enter Try.func13, Try.ntmps13
  go_wp2_with fail
  go_loopw [5] (fun k wr => ∃ j : Nat, j ≤ l.length ∧ k = .int .i64 j ∧ Hid (Upd [] w wr)) (fun k _ => l.length - (intOf k).toNat)
  case atStart => exact ⟨0, Nat.zero_le _, rfl, Upd.refl _ _⟩
  case round =>
    obtain ⟨j, hj, rfl, hu⟩ := hrel
    by_cases hlt : j < l.length
    · obtain ⟨b, o, ha, hx⟩ := HH.out.at_ (by intro e; rw [e] at hlt; simp at hlt)
      subst ha
      have hf := (hx j hlt).upd hu.out (by simp)
      have hri := HR.out j hlt
      obtain ⟨y, hy⟩ : ∃ y, y = l[j] := ⟨_, rfl⟩
      rw [← hy] at hf hri
      clear hx hy
      have HRT : Hid (∀ W, Calls Try.prog 29 #[.agg #[.bool y.lost, .int .i64 y.copies, .int .i64 y.delay]] W fun e w' => e = .returned (.bool true) ∧ Upd [] W w') := fun W => by
        have := right_any W y
        rwa [hri] at this
      obtain ⟨g0, g1, g2⟩ := hf
      clear hri
      go_wp2_with (go_at_call 29; refine (HRT.out _).mono ?_; rintro e w2 ⟨rfl, hu2⟩; have HU2 : Hid (Upd [] w w2) := hu.out.trans hu2; clear hu2)
      exact ⟨⟨j + 1, by omega, by go_num, HU2⟩, by simp [intOf]; omega⟩
    · have HU := Lib.hid hu.out
      obtain ⟨wo, hwo⟩ : ∃ wo : World, wo = wr := ⟨_, rfl⟩
      rw [← hwo] at HU
      rw [← hwo]
      clear hu hwo wr
      have HO0 : Hid (FatesAt (wo.alloc (.cells #[] 51)) wo.heap.size (.slice (some ⟨wo.heap.size, 0, none⟩) 0 0) []) :=
        ⟨rfl, .inr ⟨wo.heap.size, 0, #[], rfl, Nat.le_refl _, heap_alloc_new wo _, Nat.le_refl _, Nat.zero_le _, rfl, rfl⟩⟩
      have hUA : Upd [] wo (wo.alloc (.cells #[] 51)) := (Upd.refl _ _).alloc _
      have HUA := Lib.hid hUA
      by_cases hl0 : l = []
      · subst hl0
        have HFI : Hid (FatesIn (wo.alloc (.cells #[] 51)) (.slice (some ⟨wo.heap.size, 0, none⟩) 0 0) [] none) := ⟨_, 0, rfl, Nat.le_refl _, .inl ⟨rfl, rfl⟩⟩
        have hz : (wo.alloc (Obj.cells #[] 51)).heap.size = wo.heap.size + 1 := by simp
        clear hUA hlt hj
        cases a with
        | none =>
          go_wp2
          go_ret
          have this := rnew_fin (n := n) HFI.out (by simp) (HU.out.trans HUA.out)
          rw [hz] at this
          exact this
        | some ad =>
          go_wp2
          go_ret
          have this := rnew_fin (n := n) HFI.out (by simp) (HU.out.trans HUA.out)
          rw [hz] at this
          exact this
      · obtain ⟨b, o, ha, hx⟩ := HH.out.at_ hl0
        subst ha
        have HNW : Hid (∀ j u, (l.flatMap faVals)[j]? = some u → (wo.alloc (.cells #[] 51)).cell? ((⟨b, o, none⟩ : Addr).add j) = some u) := (hx.upd (HU.out.trans hUA) (by simp)).news
        have hlp : 0 < l.length := List.length_pos_iff.2 hl0
        have HL0 := Lib.hid hl0
        have hll : ([] : List Fa).length + l.length ≤ 100000 := by simp; omega
        have hbs : wo.heap.size ≤ (wo.alloc (Obj.cells #[] 51)).heap.size := by simp
        clear hx hUA hl0
        go_wp2_with (at_builtin; refine wpList_append_fates rfl _ _ rfl wo.heap.size _ [] rfl HO0 ⟨b, o, none⟩ _ l rfl HNW hlp hll hbs ?_; intro g cap2 w' hp1 hg1)
        go_ret
        have hp : FatesAt w' wo.heap.size (.slice (some ⟨g, 0, none⟩) l.length cap2) l := by have := hp1.out; simpa using this
        have huw : Upd [] wo w' := HUA.out.grown hg1.out (fun k hk => .inr (by
          have hk' : some wo.heap.size = some k := hk
          obtain rfl : wo.heap.size = k := by simpa using hk'
          exact Nat.le_refl _))
        refine rnew_fin (hp.inn rfl HL0.out) (fun k hk => ?_) (HU.out.trans huw)
        obtain rfl : g = k := by simpa using hk
        exact Nat.le_trans HU.out.size (hp.ge g rfl)

set_option maxHeartbeats 400000 in
theorem rnew_few (n : Int) (hn : n < 1 ∨ 12 < n) (a : Option Addr) (len cap : Nat) (w : World) :
    Calls Try.prog 13 #[.int .i64 n, .slice a len cap] w fun e w' => e = .returned (.pointer none) ∧ w = w' := by
  by_cases h : n < 1
  · go_enter Try.func13, Try.ntmps13
    go_wp2
    go_ret
    exact ⟨rfl, rfl⟩
  · have h2 : 12 < n := by omega
    clear hn
    go_enter Try.func13, Try.ntmps13
    go_wp2
    go_ret
    exact ⟨rfl, rfl⟩

set_option maxHeartbeats 4000000 in
theorem rnew_wrong {w : World} (n : Nat) (hn : 1 ≤ n) (hn12 : n ≤ 12) (a : Option Addr) (cap : Nat) (l : List Fa) (H : ArgFates w a l) (hr : rightB l = false) :
    Calls Try.prog 13 #[.int .i64 n, .slice a l.length cap] w fun e w' => e = .returned (.pointer none) ∧ Upd [] w w' := by
  have HH := Lib.hid H
  have hlm := H.len
  unfold maxLen at hlm
  have HR := Lib.hid hr
  clear H hr
  go_enter Try.func13, Try.ntmps13
  go_wp2_with fail
  go_loopw [5] (fun k wr => ∃ j : Nat, j ≤ l.length ∧ k = .int .i64 j ∧ Hid (Upd [] w wr) ∧ Hid ((l.take j).all Fa.right = true)) (fun k _ => l.length - (intOf k).toNat)
  case atStart => exact ⟨0, Nat.zero_le _, rfl, Upd.refl _ _, by simp [Hid]⟩
  case round =>
    obtain ⟨j, hj, rfl, hu, hall⟩ := hrel
    by_cases hlt : j < l.length
    · obtain ⟨b, o, ha, hx⟩ := HH.out.at_ (by intro e; rw [e] at hlt; simp at hlt)
      subst ha
      have hf := (hx j hlt).upd hu.out (by simp)
      have HRT : Hid (l[j].right = true → (l.take (j + 1)).all Fa.right = true) := fun h => right_take hlt hall.out h
      obtain ⟨y, hy⟩ : ∃ y, y = l[j] := ⟨_, rfl⟩
      rw [← hy] at hf HRT
      clear hx hy
      obtain ⟨g0, g1, g2⟩ := hf
      cases hry : y.right with
      | true =>
        have HRC : Hid (∀ W, Calls Try.prog 29 #[.agg #[.bool y.lost, .int .i64 y.copies, .int .i64 y.delay]] W fun e w' => e = .returned (.bool true) ∧ Upd [] W w') := fun W => by
          have := right_any W y
          rwa [hry] at this
        have HAL := Lib.hid (HRT.out hry)
        clear hry
        go_wp2_with (go_at_call 29; refine (HRC.out _).mono ?_; rintro e w2 ⟨rfl, hu2⟩; have HU2 : Hid (Upd [] w w2) := hu.out.trans hu2; clear hu2)
        exact ⟨⟨j + 1, by omega, by go_num, HU2, HAL⟩, by simp [intOf]; omega⟩
      | false =>
        have HRC : Hid (∀ W, Calls Try.prog 29 #[.agg #[.bool y.lost, .int .i64 y.copies, .int .i64 y.delay]] W fun e w' => e = .returned (.bool false) ∧ Upd [] W w') := fun W => by
          have := right_any W y
          rwa [hry] at this
        clear hry
        go_wp2_with (go_at_call 29; refine (HRC.out _).mono ?_; rintro e w2 ⟨rfl, hu2⟩; have HU2 : Hid (Upd [] w w2) := hu.out.trans hu2; clear hu2)
        go_ret
        exact ⟨rfl, HU2.out⟩
    · obtain rfl : j = l.length := by omega
      exfalso
      have h1 := HR.out
      have h2 := hall.out
      rw [List.take_length] at h2
      rw [rightB, h2] at h1
      cases h1
end Go.Proofs.Ytlmfgdibodpniaa
