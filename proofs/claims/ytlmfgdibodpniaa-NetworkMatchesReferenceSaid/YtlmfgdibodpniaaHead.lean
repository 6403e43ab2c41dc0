/- received; head. -/
import Derived.Test.YtlmfgdibodpniaaPlayW
namespace Go.Proofs.Ytlmfgdibodpniaa
open Go.RowKit

def total (k : Bk) : Nat := (k.got.map List.length).sum
theorem total_take {gs : List (List Pk)} {i : Nat} (h : i < gs.length) : ((gs.take (i + 1)).map List.length).sum = ((gs.take i).map List.length).sum + gs[i].length := by
  rw [List.take_succ_eq_append_getElem h, List.map_append, List.sum_append]
  simp
theorem total_le {gs : List (List Pk)} {m : Nat} (h : ∀ l ∈ gs, l.length ≤ m) : (gs.map List.length).sum ≤ gs.length * m := by
  induction gs with
  | nil => simp
  | cons a gs ih =>
    simp only [List.map_cons, List.sum_cons, List.length_cons]
    have h1 := ih fun l hl => h l (by simp [hl])
    have h2 := h a (by simp)
    rw [Nat.add_mul, Nat.one_mul]; omega

set_option maxRecDepth 100000 in
set_option maxHeartbeats 1000000 in
theorem received_any {w : World} {lo hi : Nat} {sv : Value} {G : Nat} {k : Bk} (H : BookR w lo hi sv G k) (n : Nat) (hn : k.got.length = n) (hn12 : n ≤ 12) (hl : ∀ l ∈ k.got, l.length ≤ 4000000) (cap : Nat) :
    Calls Try.prog 27 #[.agg #[sv, .slice (some ⟨G, 0, none⟩) n cap]] w fun e w' => e = .returned (.int .i64 (total k)) ∧ Upd [] w w' := by
  obtain ⟨sa, sc, hsv, -⟩ := H.sent.read
  obtain ⟨ln, hln⟩ : ∃ ln, ln = k.sent.length := ⟨_, rfl⟩
  rw [← hln] at hsv
  have HR := Lib.hid H
  have HN := Lib.hid hn
  have HL := Lib.hid hl
  clear H hln hn hl
  subst hsv
  go_enter Try.func27, Try.ntmps27
  go_wp2_with fail
  generalize hW : (w.alloc (Obj.cells #[Value.slice sa ln sc, Value.slice (some { block := G, off := 0 }) n cap] 46)) = W
  have HU : Hid (Upd [] w W) := by rw [← hW]; exact (Upd.refl _ _).alloc _
  have f0 : W.cell? ⟨w.heap.size, 0, none⟩ = some (.slice sa ln sc) := by rw [← hW]; simp
  have f1 : W.cell? ⟨w.heap.size, 1, none⟩ = some (.slice (some ⟨G, 0, none⟩) n cap) := by rw [← hW]; simp
  clear hW
  go_loop [3, 4] (fun t i => ∃ j : Nat, j ≤ n ∧ i = .int .i64 j ∧ t = .int .i64 (((k.got.take j).map List.length).sum)) (fun _ i => n - (intOf i).toNat)
  case atStart => exact ⟨0, Nat.zero_le _, rfl, by simp⟩
  case round =>
    obtain ⟨j, hj, rfl, rfl⟩ := hrel
    have htl : ((k.got.take j).map List.length).sum ≤ 12 * 4000000 := by as_aux_lemma =>
      have h1 := total_le (gs := k.got.take j) (m := 4000000) fun l hl => HL.out l (List.mem_of_mem_take hl)
      have h2 : (k.got.take j).length ≤ 12 := by rw [List.length_take]; omega
      exact Nat.le_trans h1 (Nat.mul_le_mul_right _ h2)
    obtain ⟨t, ht⟩ : ∃ t, t = ((k.got.take j).map List.length).sum := ⟨_, rfl⟩
    have HT := Lib.hid ht
    rw [← ht] at htl
    rw [← ht]
    clear ht
    by_cases hlt : j < n
    · have hjg : j < k.got.length := by rw [HN.out]; exact hlt
      obtain ⟨v, hv, hp, -⟩ := HR.out.row j _ (List.getElem?_eq_getElem hjg)
      have hv' := HU.out.cell hv (by simp)
      have htk := total_take hjg
      have hlj := HL.out _ (List.getElem_mem hjg)
      obtain ⟨y, hy⟩ : ∃ y, y = k.got[j] := ⟨_, rfl⟩
      rw [← hy] at hp htk hlj
      rw [← HT.out] at htk
      have HTK := Lib.hid htk
      obtain ⟨a, c, hvf, -⟩ := hp.read
      obtain ⟨yl, hyl⟩ : ∃ yl, yl = y.length := ⟨_, rfl⟩
      rw [← hyl] at hvf hlj HTK
      subst hvf
      clear hv hp hy htk hyl
      go_wp2
      go_round
      case rel => exact ⟨j + 1, by omega, by go_num, by rw [HTK.out]; go_num⟩
      case measure => simp [intOf]; omega
    · go_wp2
      go_ret
      have e : t = total k := by rw [HT.out, List.take_of_length_le (by have := HN.out; omega)]; rfl
      exact ⟨ret_int (by rw [e]), HU.out⟩

/-! ### One network and what was received of it -/
def NK (w0 w : World) (B : Nat) (N : NS) (vs : List (Value × List Pk)) : Prop :=
  ∃ f : NFoot, f.B = B ∧ NetAt w w0.heap.size f N ∧ Upd [] w0 w ∧ ∀ x ∈ vs, PksAt w w0.heap.size x.1 x.2 ∧ ∀ j, x.1.ownBlock = some j → j ∉ f.list

theorem NK.turn {w0 w w' : World} {f f' : NFoot} {N N' : NS} {vs : List (Value × List Pk)} (hd : NetAt w w0.heap.size f N) (h0 : Upd [] w0 w) (hv : ∀ x ∈ vs, PksAt w w0.heap.size x.1 x.2 ∧ ∀ j, x.1.ownBlock = some j → j ∉ f.list) (hn : NetAt w' w0.heap.size f' N') (ht : NTurn f f' w w') : NK w0 w' f.B N' vs :=
  ⟨f', ht.B, hn, h0.then ht.upd (fun k hk => .inr (hd.ge k hk)), fun x hx => ⟨(hv x hx).1.upd fun j hj => ht.upd.block j ((hv x hx).1.lt j hj) ((hv x hx).2 j hj), fun j hj hm => by
    rcases ht.sub j hm with h | h
    · exact (hv x hx).2 j hj h
    · have := (hv x hx).1.lt j hj; omega⟩⟩
theorem NK.upd {w0 w : World} {B : Nat} {N : NS} {vs : List (Value × List Pk)} (h : NK w0 w B N vs) : Upd [] w0 w := let ⟨_, _, _, h, _⟩ := h; h
theorem NK.keep {w0 w w' : World} {B : Nat} {N : NS} {vs : List (Value × List Pk)} (h : NK w0 w B N vs) (hu : Upd [] w w') : NK w0 w' B N vs := by
  obtain ⟨f, rfl, hd, h0, hv⟩ := h
  exact NK.turn hd h0 hv (hd.upd hu (by simp)) (.same hu)
theorem NK.pks {w0 w : World} {B : Nat} {N : NS} {vs : List (Value × List Pk)} (h : NK w0 w B N vs) {v : Value} {l : List Pk} (hm : (v, l) ∈ vs) : PksAt w w0.heap.size v l := by
  obtain ⟨f, rfl, hd, h0, hv⟩ := h; exact (hv _ hm).1

section
variable {w0 w : World} {B : Nat} {N : NS} {vs : List (Value × List Pk)} (h : NK w0 w B N vs) (hw : N.Wf)
include h hw
theorem nk_send (ht : N.time ≤ 1000000) (hk : N.number ≤ 1000000) (hfb : N.fates.length ≤ 1000000) (p : Pk) :
    Calls Try.prog 14 #[.pointer (some ⟨B, 0, none⟩), p.val] w fun e w' => e = .returned (.int .i64 (N.send p).2) ∧ NK w0 w' B (N.send p).1 vs := by
  obtain ⟨f, rfl, hd, h0, hv⟩ := h
  exact (send_any hd hw h0.size ht hk hfb p).mono fun e w' ⟨he, f', hn, hT⟩ => ⟨he, NK.turn hd h0 hv hn hT⟩
theorem nk_recv (i : Nat) (hi : i < N.ways.length) :
    Calls Try.prog 16 #[.pointer (some ⟨B, 0, none⟩), .int .i64 i] w fun e w' => ∃ v, e = .returned (.tuple #[v, .int .i64 0]) ∧ NK w0 w' B (N.recv i) ((v, N.got i) :: vs) := by
  obtain ⟨f, rfl, hd, h0, hv⟩ := h
  refine (recv_any hd hw.n12 i hi (Nat.le_trans (hw.way_le i) hw.lim) (Nat.le_trans (N.taken_le i) (hw.way_le i)) hw.lim).mono fun e w' ⟨v, he, hp, hn, hu⟩ => ⟨v, he, ?_⟩
  obtain ⟨f', x1, x2, x3, x4⟩ := NK.turn hd h0 hv hn (f' := f) ⟨hu, fun _ hk => .inl hk, rfl⟩
  refine ⟨f, rfl, hn, x3, fun x hx => ?_⟩
  rcases List.mem_cons.1 hx with rfl | hx
  · exact ⟨hp.mono h0.size, fun j hj hm => by have := hp.ge j hj; have := hd.lt j hm; omega⟩
  · exact ⟨(x4 x hx).1, (hv x hx).2⟩
theorem nk_bad (x : Int) (hx : N.has x = false) :
    Calls Try.prog 16 #[.pointer (some ⟨B, 0, none⟩), .int .i64 x] w fun e w' => e = .returned (.tuple #[.slice none 0 0, .int .i64 1]) ∧ w = w' := by
  obtain ⟨f, rfl, hd, h0, hv⟩ := h
  exact recv_bad hd hw.n12 x hx
end
theorem nk_step {w0 w : World} {B : Nat} {N : NS} {vs : List (Value × List Pk)} (h : NK w0 w B N vs) (ht : N.time ≤ 1000000) :
    Calls Try.prog 19 #[.pointer (some ⟨B, 0, none⟩)] w fun e w' => e = .returned (.tuple #[]) ∧ NK w0 w' B N.step vs := by
  obtain ⟨f, rfl, hd, h0, hv⟩ := h
  exact (step_any hd ht).mono fun e w' ⟨he, f', hn, hT⟩ => ⟨he, NK.turn hd h0 hv hn hT⟩
theorem nk_waiting {w0 w : World} {B : Nat} {N : NS} {vs : List (Value × List Pk)} (h : NK w0 w B N vs) :
    Calls Try.prog 21 #[.pointer (some ⟨B, 0, none⟩)] w fun e w' => e = .returned (.int .i64 N.count) ∧ w = w' := by
  obtain ⟨f, rfl, hd, h0, hv⟩ := h
  exact waiting_any hd

/-! ### head, reckoned -/
def pa : Pk := ⟨0, 1, ⟨#[97]⟩⟩
def pb : Pk := ⟨0, 1, ⟨#[98]⟩⟩
def pc : Pk := ⟨0, 1, ⟨#[99]⟩⟩
def pz : Pk := ⟨0, 0, ByteArray.empty⟩
def hfs : List Fa := [⟨true, 0, 0⟩, ⟨false, 2, 1⟩]
def h0 : NS := NS.new 2 hfs
def h1 : NS := (h0.send pa).1
def h2 : NS := (h1.send pb).1
def h3 : NS := (h2.send pc).1
def h4 : NS := h3.recv 1
def h5 : NS := h4.step
def h6 : NS := h5.recv 1
def h7 : NS := h6.recv 0
theorem e1 : (h0.send pa).2 = 0 := by decide +kernel
theorem e2 : (h1.send pb).2 = 0 := by decide +kernel
theorem e3 : (h2.send pc).2 = 0 := by decide +kernel
theorem e4 : h3.count = 3 := by decide +kernel
theorem e5 : h3.got 1 = [pc] := by decide +kernel
theorem e6 : h5.got 1 = [pb, pb] := by decide +kernel
theorem e7 : h6.got 0 = [] := by decide +kernel
theorem e8 : h7.count = 0 := by decide +kernel
theorem e9 : (h7.send pz).2 = 1 := by decide +kernel
theorem w0 : h0.Wf := new_wf (by decide) (by decide) (by decide)
theorem w1 : h1.Wf := send_wf w0 _
theorem w2 : h2.Wf := send_wf w1 _
theorem w3 : h3.Wf := send_wf w2 _
theorem w4 : h4.Wf := recv_wf w3 1 (by decide +kernel)
theorem w5 : h5.Wf := step_wf w4
theorem w6 : h6.Wf := recv_wf w5 1 (by decide +kernel)
theorem w7 : h7.Wf := recv_wf w6 0 (by decide +kernel)

set_option maxRecDepth 100000 in
set_option maxHeartbeats 4000000 in
theorem head_any (w : World) : Calls Try.prog 10 #[] w fun e w' => e = .returned (.bool true) ∧ Upd [] w w' := by
  obtain ⟨W, hW⟩ : ∃ W, W = w.alloc (.cells #[.bool true, .int .i64 0, .int .i64 0, .bool false, .int .i64 2, .int .i64 1] 51) := ⟨_, rfl⟩
  have HU : Hid (Upd [] w W) := by rw [hW]; exact (Upd.refl _ _).alloc _
  have hrow : W.heap[w.heap.size]? = some (.cells #[.bool true, .int .i64 0, .int .i64 0, .bool false, .int .i64 2, .int .i64 1] 51 (0, 0)) := by rw [hW]; exact heap_alloc_new _ _
  have HNW : Hid (Calls Try.prog 12 #[.int .i64 2, .slice (some ⟨w.heap.size, 0, none⟩) 2 2] W (NewPost 2 hfs W)) := by
    refine new_ok 2 (by decide) (by decide) (some ⟨w.heap.size, 0, none⟩) 2 hfs ⟨by decide, by simp, fun _ => ⟨w.heap.size, 0, rfl, fun i hi => ?_⟩⟩ (by simp) (by decide) (by decide)
    have hc : ∀ j, W.cell? ⟨w.heap.size, j, none⟩ = (#[Value.bool true, .int .i64 0, .int .i64 0, .bool false, .int .i64 2, .int .i64 1] : Array Value)[j]? := fun j => cell_of_row W _ j _ 51 (0, 0) hrow
    match i, hi with
    | 0, _ => exact ⟨hc 0, hc 1, hc 2⟩
    | 1, _ => exact ⟨hc 3, hc 4, hc 5⟩
  clear hrow
  go_enter Try.func10, Try.ntmps10
  go_wp2_with fail
  rw [← hW]
  clear hW
  refine HNW.out.mono ?_
  rintro e wa ⟨f, rfl, hn, hu⟩
  have H0 : Hid (NK W wa f.B h0 []) := ⟨f, rfl, hn, hu, by simp⟩
  obtain ⟨B, hB⟩ : ∃ B, B = f.B := ⟨_, rfl⟩
  rw [← hB] at H0
  rw [← hB]
  clear hn hu hB HNW
  go_wp2_with fail
  have c : Calls Try.prog 14 #[.pointer (some ⟨B, 0, none⟩), .agg #[.int .i64 0, .int .i64 1, .string ⟨#[97]⟩]] wa _ := nk_send H0.out w0 (by decide +kernel) (by decide +kernel) (by decide +kernel) pa
  rw [e1] at c
  refine c.mono ?_
  rintro e wb ⟨rfl, hl⟩
  clear c
  have H1 : Hid (NK W wb B h1 []) := hl
  clear hl H0
  go_wp2_with fail
  have c : Calls Try.prog 14 #[.pointer (some ⟨B, 0, none⟩), .agg #[.int .i64 0, .int .i64 1, .string ⟨#[98]⟩]] wb _ := nk_send H1.out w1 (by decide +kernel) (by decide +kernel) (by decide +kernel) pb
  rw [e2] at c
  refine c.mono ?_
  rintro e wc ⟨rfl, hl⟩
  clear c
  have H2 : Hid (NK W wc B h2 []) := hl
  clear hl H1
  go_wp2_with fail
  have c : Calls Try.prog 14 #[.pointer (some ⟨B, 0, none⟩), .agg #[.int .i64 0, .int .i64 1, .string ⟨#[99]⟩]] wc _ := nk_send H2.out w2 (by decide +kernel) (by decide +kernel) (by decide +kernel) pc
  rw [e3] at c
  refine c.mono ?_
  rintro e wd ⟨rfl, hl⟩
  clear c
  have H3 : Hid (NK W wd B h3 []) := hl
  clear hl H2
  go_wp2_with fail
  have c := nk_waiting H3.out
  rw [e4] at c
  refine c.mono ?_
  rintro e we ⟨rfl, rfl⟩
  clear c
  go_wp2_with fail
  have c : Calls Try.prog 16 #[.pointer (some ⟨B, 0, none⟩), .int .i64 1] wd _ := nk_recv H3.out w3 1 (by decide +kernel)
  rw [e5] at c
  refine c.mono ?_
  rintro e wf ⟨v1, rfl, hl⟩
  clear c
  have H4 : Hid (NK W wf B h4 [(v1, [pc])]) := hl
  obtain ⟨a1, c1, hv1, -⟩ := (hl.pks (List.mem_cons_self)).read
  subst hv1
  clear hl H3
  go_wp2_with fail
  refine (nk_step H4.out (by decide +kernel)).mono ?_
  rintro e wg ⟨rfl, hl⟩
  have H5 : Hid (NK W wg B h5 [(.slice a1 [pc].length c1, [pc])]) := hl
  clear hl H4
  go_wp2_with fail
  have c : Calls Try.prog 16 #[.pointer (some ⟨B, 0, none⟩), .int .i64 1] wg _ := nk_recv H5.out w5 1 (by decide +kernel)
  rw [e6] at c
  refine c.mono ?_
  rintro e wh ⟨v2, rfl, hl⟩
  clear c
  obtain ⟨a2, c2, hv2, -⟩ := (hl.pks (List.mem_cons_self)).read
  subst hv2
  have H6 : Hid (NK W wh B h6 [(.slice a2 [pb, pb].length c2, [pb, pb]), (.slice a1 [pc].length c1, [pc])]) := hl
  clear hl H5
  go_wp2_with fail
  have c : Calls Try.prog 16 #[.pointer (some ⟨B, 0, none⟩), .int .i64 0] wh _ := nk_recv H6.out w6 0 (by decide +kernel)
  rw [e7] at c
  refine c.mono ?_
  rintro e wi ⟨v3, rfl, hl⟩
  clear c
  obtain ⟨a3, c3, hv3, -⟩ := (hl.pks (List.mem_cons_self)).read
  subst hv3
  have H7 : Hid (NK W wi B h7 [(.slice a3 ([] : List Pk).length c3, []), (.slice a2 [pb, pb].length c2, [pb, pb]), (.slice a1 [pc].length c1, [pc])]) := hl
  clear hl H6
  go_wp2_with fail
  refine (recv_nil 0).mono ?_
  rintro e wj ⟨rfl, rfl⟩
  obtain ⟨b1, hb1, hc1⟩ : ∃ b, a1 = some ⟨b, 0, none⟩ ∧ PkAt wi b 0 pc := by
    obtain ⟨a', c', hv, hx⟩ := (H7.out.pks (v := .slice a1 [pc].length c1) (l := [pc]) (by simp)).read
    obtain ⟨rfl, -⟩ : a1 = a' ∧ c1 = c' := by simpa using hv
    obtain ⟨b, hb, hat⟩ := hx (by simp)
    exact ⟨b, hb, hat 0 (by simp)⟩
  obtain ⟨b2, hb2, hc2, hc3⟩ : ∃ b, a2 = some ⟨b, 0, none⟩ ∧ PkAt wi b 0 pb ∧ PkAt wi b 3 pb := by
    obtain ⟨a', c', hv, hx⟩ := (H7.out.pks (v := .slice a2 [pb, pb].length c2) (l := [pb, pb]) (by simp)).read
    obtain ⟨rfl, -⟩ : a2 = a' ∧ c2 = c' := by simpa using hv
    obtain ⟨b, hb, hat⟩ := hx (by simp)
    exact ⟨b, hb, hat 0 (by simp), hat 1 (by simp)⟩
  subst hb1; subst hb2
  have k1 : wi.cell? ⟨b1, 2, none⟩ = some (.string ⟨#[99]⟩) := hc1.c2
  have k2 : wi.cell? ⟨b2, 2, none⟩ = some (.string ⟨#[98]⟩) := hc2.c2
  have k3 : wi.cell? ⟨b2, 5, none⟩ = some (.string ⟨#[98]⟩) := hc3.c2
  clear hc1 hc2 hc3
  go_wp2_with fail
  have c := nk_waiting H7.out
  rw [e8] at c
  refine c.mono ?_
  rintro e wk ⟨rfl, rfl⟩
  clear c
  go_wp2_with fail
  have c : Calls Try.prog 14 #[.pointer (some ⟨B, 0, none⟩), .agg #[.int .i64 0, .int .i64 0, .string ByteArray.empty]] wi _ := nk_send H7.out w7 (by decide +kernel) (by decide +kernel) (by decide +kernel) pz
  rw [e9] at c
  refine c.mono ?_
  rintro e wl ⟨rfl, hl⟩
  clear c
  have HF : Hid (Upd [] w wl) := HU.out.trans hl.upd
  clear hl H7 k1 k2 k3
  go_wp2_with fail
  refine (new_few 0 (by decide) none 0 0 _).mono ?_
  rintro e wm ⟨rfl, rfl⟩
  go_wp2_with fail
  have hrow : (wl.alloc (Obj.cells #[Value.bool false, Value.int .i64 0, Value.int .i64 0] 51)).heap[wl.heap.size]? = some (.cells #[Value.bool false, Value.int .i64 0, Value.int .i64 0] 51 (0, 0)) := heap_alloc_new _ _
  have c : Calls Try.prog 12 #[.int .i64 1, .slice (some ⟨wl.heap.size, 0, none⟩) 1 1] (wl.alloc (Obj.cells #[Value.bool false, Value.int .i64 0, Value.int .i64 0] 51)) _ := new_wrong 1 (by decide) (by decide) (some ⟨wl.heap.size, 0, none⟩) 1 [⟨false, 0, 0⟩] ⟨by decide, by simp, fun _ => ⟨wl.heap.size, 0, rfl, fun i hi => by
      obtain rfl : i = 0 := by simpa using hi
      obtain ⟨x0, x1, x2, -⟩ := row_cells3 hrow
      exact ⟨x0, x1, x2⟩⟩⟩ (by decide)
  clear hrow
  refine c.mono ?_
  rintro e wn ⟨rfl, hu⟩
  clear c
  have HF2 : Hid (Upd [] w wn) := (HF.out.alloc _).trans hu
  clear hu
  go_wp2
  go_ret
  exact ⟨rfl, HF2.out⟩
end Go.Proofs.Ytlmfgdibodpniaa
