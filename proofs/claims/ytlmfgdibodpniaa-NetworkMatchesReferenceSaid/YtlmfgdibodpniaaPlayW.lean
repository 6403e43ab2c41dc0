/- play, walked. -/
import Derived.Test.YtlmfgdibodpniaaLate
namespace Go.Proofs.Ytlmfgdibodpniaa
open Go.RowKit

/-- A book that is read: its blocks lie from lo on, below hi. -/
structure BookR (w : World) (lo hi : Nat) (sv : Value) (G : Nat) (k : Bk) : Prop where
  sent : PksAt w lo sv k.sent
  sh : ∀ j, sv.ownBlock = some j → j < hi
  glo : lo ≤ G
  ghi : G < hi
  row : ∀ (i : Nat) (l : List Pk), k.got[i]? = some l → ∃ v, w.cell? ⟨G, i, none⟩ = some v ∧ PksAt w lo v l ∧ ∀ j, v.ownBlock = some j → j < hi

theorem BookR.upd {w w' : World} {lo hi : Nat} {sv : Value} {G : Nat} {k : Bk} (h : BookR w lo hi sv G k) {F : List Nat} (hu : Upd F w w') (hd : ∀ j, lo ≤ j → j < hi → j ∉ F) (hh : hi ≤ w.heap.size) : BookR w' lo hi sv G k := by
  refine ⟨h.sent.upd fun j hj => hu.block j (by have := h.sh j hj; omega) (hd j (h.sent.ge j hj) (h.sh j hj)), h.sh, h.glo, h.ghi, fun i l hl => ?_⟩
  obtain ⟨v, hv, hp, ho⟩ := h.row i l hl
  exact ⟨v, hu.cell hv (hd G h.glo h.ghi), hp.upd fun j hj => hu.block j (by have := ho j hj; omega) (hd j (hp.ge j hj) (ho j hj)), ho⟩

theorem BookAt.read {w : World} {base : Nat} {b : BFoot} {k : Bk} (h : BookAt w base b k) : ∃ sv, w.heap[b.R]? = some (bookObj sv b.G k.got.length) ∧ BookR w base w.heap.size sv b.G k := by
  have hlt := h.lt
  obtain ⟨sv, gs, h1, h2, h3, h4, h5, h6, h7⟩ := h.ex
  refine ⟨sv, h1, h6, fun j hj => h6.lt j hj, h.ge _ (BFoot.mem.2 (.inr (.inl rfl))), hlt _ (BFoot.mem.2 (.inr (.inl rfl))), fun i l hl => ?_⟩
  have hi : i < gs.length := by rw [h3]; exact (List.getElem?_eq_some_iff.1 hl).1
  have hv := List.getElem?_eq_getElem hi
  refine ⟨gs[i], ?_, h7 i _ l hv hl, fun j hj => (h7 i _ l hv hl).lt j hj⟩
  rw [cell_of_row w b.G i _ 36 (0, 0) h2]; simp

def PlayPost (base : Nat) (f0 : NFoot) (s : PS) (n : Nat) (w : World) (e : Ending) (w' : World) : Prop :=
  ∃ sv G f', e = .returned (.agg #[sv, .slice (some ⟨G, 0, none⟩) n n]) ∧ BookR w' w.heap.size w'.heap.size sv G s.bk ∧ NetAt w' base f' s.net ∧ NTurn f0 f' w w'

theorem both_init {w : World} {base : Nat} {f0 : NFoot} {N : NS} (h : NetAt w base f0 N) (n : Nat) :
    Both (w.alloc (.cells #[.slice none 0 0, .slice none 0 0] 46)) f0 base (w.heap.size + 2) (((w.alloc (Obj.cells #[Value.slice none 0 0, Value.slice none 0 0] 46)).alloc (Obj.cells (Array.replicate n (Value.slice none 0 0)) 36)).alloc (Obj.cells #[Value.slice none 0 0, Value.slice (some ⟨w.heap.size + 1, 0, none⟩) n n] 46)) N ⟨[], List.replicate n []⟩ := by
  obtain ⟨W1, h1⟩ : ∃ W1, W1 = w.alloc (.cells #[.slice none 0 0, .slice none 0 0] 46) := ⟨_, rfl⟩
  rw [← h1]
  obtain ⟨W2, h2⟩ : ∃ W2, W2 = W1.alloc (Obj.cells (Array.replicate n (Value.slice none 0 0)) 36) := ⟨_, rfl⟩
  rw [← h2]
  obtain ⟨W3, h3⟩ : ∃ W3, W3 = W2.alloc (Obj.cells #[Value.slice none 0 0, Value.slice (some ⟨w.heap.size + 1, 0, none⟩) n n] 46) := ⟨_, rfl⟩
  rw [← h3]
  have z1 : W1.heap.size = w.heap.size + 1 := by rw [h1]; simp
  have z2 : W2.heap.size = w.heap.size + 2 := by rw [h2]; simp [z1]
  have u1 : Upd [] w W1 := by rw [h1]; exact (Upd.refl _ _).alloc _
  have u2 : Upd [] W1 W2 := by rw [h2]; exact (Upd.refl _ _).alloc _
  have u3 : Upd [] W2 W3 := by rw [h3]; exact (Upd.refl _ _).alloc _
  have hR : W3.heap[w.heap.size + 2]? = some (bookObj (.slice none 0 0) (w.heap.size + 1) n) := by rw [h3, ← z2]; exact heap_alloc_new _ _
  have hG : W3.heap[w.heap.size + 1]? = some (.cells (List.replicate n (Value.slice none 0 0)).toArray 36 (0, 0)) := by
    rw [u3.block _ (by omega) (by simp), h2, ← z1]
    have := heap_alloc_new W1 (Obj.cells (Array.replicate n (Value.slice none 0 0)) 36)
    rw [this]; simp
  refine ⟨f0, ⟨w.heap.size + 2, w.heap.size + 1, none, List.replicate n none⟩, h.upd ((u1.trans u2).trans u3) (by simp), ⟨⟨by simp, by simp, ?_, ?_⟩, ?_, .slice none 0 0, List.replicate n (.slice none 0 0), ?_, hG, by simp, rfl, ?_, World.ownsRow_nil _ _ _ _, ?_⟩, ?_, .same (u2.trans u3), rfl⟩
  · intro g hg; simp [List.mem_replicate] at hg
  · intro i j g hg; simp [List.getElem?_replicate] at hg
  · intro j hj
    rcases BFoot.mem.1 hj with rfl | rfl | hj | hj
    · rw [z1]; simp
    · rw [z1]; simp
    · simp at hj
    · simp [List.mem_replicate] at hj
  · simpa using hR
  · simp [List.map_replicate, Value.ownBlock]
  · intro i v l hv hl
    simp only [List.getElem?_replicate] at hv hl
    split at hv
    · rw [if_pos (by assumption)] at hl
      obtain rfl : Value.slice none 0 0 = v := by simpa using hv
      obtain rfl : [] = l := by simpa using hl
      exact World.ownsRow_nil _ _ _ _
    · cases hv
  · intro j hj hm
    have h9 := h.lt j hj
    rcases BFoot.mem.1 hm with e | e | hm | hm
    · simp only at e; omega
    · simp only at e; omega
    · simp at hm
    · simp [List.mem_replicate] at hm

theorem info36 : (Try.prog.info? 36).map (fun i => (i.zero, i.size, i.bytes)) = some (some (.slice none 0 0), 1, 24) := by kernel_rfl

set_option maxRecDepth 100000 in
set_option maxHeartbeats 8000000 in
theorem play_any {w : World} {base : Nat} {f0 : NFoot} {N : NS} (h : NetAt w base f0 N) (hw : N.Wf) (hb0 : base ≤ w.heap.size) (n : Nat) (hn : N.ways.length = n) (fa : Option Addr) (fc : Nat) (fs : List Fa) (HF : ArgFates w fa fs) (hr : rightB fs = true) (hfd : fs ≠ [] → ∀ b o, fa = some ⟨b, o, none⟩ → b ∉ f0.list)
    (oa : Option Addr) (oc : Nat) (l : List OpR) (HO : ArgOps w oa l) (hod : l ≠ [] → ∀ b o, oa = some ⟨b, o, none⟩ → b ∉ f0.list) (hl : l.length ≤ 1000) (hfl : fs.length ≤ 1000) (ht : N.time ≤ 1000) (hk : N.number ≤ 1000) (hfb : N.fates.length ≤ 1000) :
    Calls Try.prog 25 #[.pointer (some ⟨f0.B, 0, none⟩), .int .i64 n, .slice fa fs.length fc, .slice oa l.length oc] w (PlayPost base f0 (PS.run fs ⟨N, 0, ⟨[], List.replicate n []⟩⟩ l) n w) := by
  have hn12 : n ≤ 12 := by rw [← hn]; exact hw.n12
  have hmk := run_make_row' (P := Try.prog) 44 36 (.slice none 0 0) 24 Try.underlying44 info36 rfl .i64 .i64 n (by omega) (by omega)
  rw [made66] at hmk
  have HN := Lib.hid h
  have HW := Lib.hid hw
  have HNN := Lib.hid hn
  have HFF := Lib.hid HF
  have HOO := Lib.hid HO
  have HR := Lib.hid hr
  have HFD := Lib.hid hfd
  have HOD := Lib.hid hod
  clear h hw hn HF HO hr hfd hod
  obtain ⟨s0, hs0⟩ : ∃ s0 : PS, s0 = ⟨N, 0, ⟨[], List.replicate n []⟩⟩ := ⟨_, rfl⟩
  rw [← hs0]
  have HOK : Hid (s0.Ok n 1000 1000 1000 0) := by
    rw [hs0]
    exact ⟨HW.out, HNN.out, by simp, ht, hk, hfb, by simp, by simp, fun x hx => by simp only [List.mem_replicate] at hx; rw [hx.2]; simp⟩
  have HS0 := Lib.hid hs0
  have HBI := Lib.hid (both_init HN.out n)
  clear hs0 ht hk hfb
  go_enter Try.func25, Try.ntmps25
  go_wp2_with fail
  generalize hWL : (((w.alloc (Obj.cells #[Value.slice none 0 0, Value.slice none 0 0] 46)).alloc (Obj.cells (Array.replicate n (Value.slice none 0 0)) 36)).alloc (Obj.cells #[Value.slice none 0 0, Value.slice (some ⟨w.heap.size + 1, 0, none⟩) n n] 46)) = WL at HBI ⊢
  obtain ⟨W8, hW8⟩ : ∃ W8, W8 = w.alloc (Obj.cells #[Value.slice none 0 0, Value.slice none 0 0] 46) := ⟨_, rfl⟩
  rw [← hW8] at HBI
  have U8 : Hid (Upd [] w W8) := by rw [hW8]; exact (Upd.refl _ _).alloc _
  have R8 : Hid (W8.heap[w.heap.size]? = some (.cells #[.slice none 0 0, .slice none 0 0] 46 (0, 0))) := by rw [hW8]; exact heap_alloc_new _ _
  have Z8 : Hid (W8.heap.size = w.heap.size + 1) := by rw [hW8]; simp [Hid]
  obtain ⟨R, hR⟩ : ∃ R, R = w.heap.size + 2 := ⟨_, rfl⟩
  rw [← hR] at HBI
  have hR' : w.heap.size + 1 + 1 = R := by omega
  rw [hR']
  have HRR := Lib.hid hR
  clear hWL hW8 hR hR' hmk
  go_loopw [10, 11] (fun u i wr => ∃ k : Nat, k ≤ l.length ∧ i = .int .i64 k ∧ u = .int .i64 (PS.run fs s0 (l.take k)).used ∧ Hid (Both W8 f0 base R wr (PS.run fs s0 (l.take k)).net (PS.run fs s0 (l.take k)).bk)) (fun _ i _ => l.length - (intOf i).toNat)
  case atStart => exact ⟨0, Nat.zero_le _, rfl, by rw [HS0.out]; rfl, by have := HBI.out; rw [HS0.out]; exact this⟩
  case round =>
    obtain ⟨k, hkl, rfl, rfl, hB⟩ := hrel
    by_cases hlt : k < l.length
    · have hst := PS.run_take (fs := fs) (s := s0) hlt
      have hok := PS.run_ok HR.out (l.take k) HOK.out 2000 10000 4000000 (by rw [List.length_take]; omega) (by rw [List.length_take]; omega) (by rw [List.length_take]; omega)
      obtain ⟨S, hS⟩ : ∃ S, S = PS.run fs s0 (l.take k) := ⟨_, rfl⟩
      rw [← hS] at hB hst hok
      rw [← hS]
      obtain ⟨ob, oo, hoa, hop⟩ := HOO.out.get hlt
      subst hoa
      have hobf := HOD.out (by intro e; rw [e] at hlt; simp at hlt) ob oo rfl
      obtain ⟨y, hy⟩ : ∃ y, y = l[k] := ⟨_, rfl⟩
      rw [← hy] at hst hop
      have HST := Lib.hid hst
      have HSO := Lib.hid hok
      have hobw := hop.lt
      have hop8 := hop.upd U8.out (by simp)
      have HOP8 := Lib.hid hop8
      have HOLD : Hid (∀ {W : World} {M : NS} {K : Bk}, Both W8 f0 base R W M K → OpAt W ob (oo + k * 5) y) := fun {W M K} hh =>
        ⟨hh.old hop8.c0 hobf, hh.old hop8.c1 hobf, hh.old hop8.c2 hobf, hh.old hop8.c3 hobf, hh.old hop8.c4 hobf⟩
      obtain ⟨c0, c1, c2, c3, c4⟩ := HOLD.out hB.out
      have hus : S.used ≤ 2000 := hok.used
      clear hst hok hS hop hy hop8
      obtain ⟨yk, yh, ⟨y0, y1, y2⟩⟩ := y
      simp only at c0 c1 c2 c3 c4
      by_cases k0 : yk = 0
      · subst k0
        have HSND := Lib.hid (both_send hB.out HSO.out.wf (Nat.le_trans hb0 (Nat.le_trans U8.out.size hB.out.size)) (by have := HSO.out.time; omega) (by have := HSO.out.num; omega) (by have := HSO.out.fat; omega) ⟨y0, y1, y2⟩)
        obtain ⟨r, hr⟩ : ∃ r, r = (S.net.send ⟨y0, y1, y2⟩).2 := ⟨_, rfl⟩
        obtain ⟨N', hN'⟩ : ∃ N', N' = (S.net.send ⟨y0, y1, y2⟩).1 := ⟨_, rfl⟩
        rw [← hr, ← hN'] at HSND
        by_cases hr0 : r = 0
        · subst hr0
          have HEQ : Hid (S.step fs ⟨0, yh, ⟨y0, y1, y2⟩⟩ = ⟨N', S.used + 1, S.bk.send ⟨y0, y1, y2⟩ (manyAt fs S.used)⟩) := by
            unfold Hid PS.step
            rw [if_pos rfl, if_pos hr.symm, ← hN']
          have hm9 := manyAt_le HR.out S.used
          obtain ⟨mn, hmn⟩ : ∃ mn, mn = manyAt fs S.used := ⟨_, rfl⟩
          rw [← hmn] at HEQ hm9
          have HMN := Lib.hid hmn
          clear hr hN' hmn
          have HFR : Hid (∀ f ∈ fs, f.right = true) := fun f hf => List.all_eq_true.1 HR.out f hf
          go_upto_if 45 with (go_at_call 14; refine HSND.out.mono ?_; rintro e w5 ⟨rfl, hb5⟩; have HB5 := Lib.hid hb5; obtain ⟨d0, d1, d2, d3, d4⟩ := HOLD.out hb5; simp only at d0 d1 d2 d3 d4; clear hb5 c0 c1 c2 c3 c4)
          go_cut [12] (fun m wc => m = .int .i64 mn ∧ wc = w5)
          case first =>
            by_cases hu : S.used < fs.length
            · obtain ⟨fb, fo, hfa, hfx⟩ := HFF.out.at_ (by intro e; rw [e] at hu; simp at hu)
              subst hfa
              have hf8 := (hfx S.used hu).upd U8.out (by simp)
              have hfn := HFD.out (by intro e; rw [e] at hu; simp at hu) fb fo rfl
              have k0 := HB5.out.old hf8.c0 hfn
              have k1 := HB5.out.old hf8.c1 hfn
              have hmy : mn = (fs[S.used]).many := by rw [HMN.out, manyAt, List.getD_eq_getElem?_getD, List.getElem?_eq_getElem hu]; rfl
              have hry := HFR.out _ (List.getElem_mem hu)
              obtain ⟨y, hy⟩ : ∃ y, y = fs[S.used] := ⟨_, rfl⟩
              rw [← hy] at k0 k1 hmy hry
              clear hy hf8 hfx
              obtain ⟨z0, z1, z2⟩ := y
              simp only at k0 k1
              have hd : decide ((S.used : Int) < (fs.length : Int)) = true := by simpa using hu
              have huI : (S.used : Int) < (fs.length : Int) := by omega
              cases z0 with
              | true =>
                obtain rfl : mn = 0 := by simpa [Fa.many] using hmy
                clear hry hmy
                go_wp2
                go_meet
                exact ⟨rfl, rfl⟩
              | false =>
                have hz : (z1 : Int) = (mn : Int) := by
                  simp only [Fa.right, Bool.false_or, decide_eq_true_eq] at hry
                  simp only [Fa.many, Bool.false_eq_true, if_false] at hmy
                  omega
                subst hz
                clear hry hmy
                go_wp2
                go_meet
                exact ⟨rfl, rfl⟩
            · have hd : decide ((S.used : Int) < (fs.length : Int)) = false := by simpa using hu
              obtain rfl : mn = 1 := by rw [HMN.out, manyAt, List.getD_eq_getElem?_getD, List.getElem?_eq_none (by omega)]; rfl
              go_wp2
              go_meet
              exact ⟨rfl, rfl⟩
          case rest =>
            obtain ⟨rfl, rfl⟩ := hcut
            have hus2 : S.used ≤ 2000 := hus
            go_wp2_with fail
            go_loopw [13] (fun j wr => ∃ q : Nat, q ≤ mn ∧ j = .int .i64 q ∧ Hid (Both W8 f0 base R wr N' (S.bk.send ⟨y0, y1, y2⟩ q))) (fun j _ => mn - (intOf j).toNat)
            case atStart => exact ⟨0, Nat.zero_le _, rfl, by have := HB5.out; simpa [Hid, Bk.send] using this⟩
            case round =>
              obtain ⟨q, hq, rfl, hBq⟩ := hrel
              by_cases hqm : q < mn
              · obtain ⟨f, b, h1, h2, h3, h4, h5⟩ := hBq.out
                obtain ⟨sv, gs, e0, -, ez, -, -, -, eps, -, eS, -⟩ := h2.cells
                obtain ⟨g0, g1, g2, g3, g4⟩ := HOLD.out hBq.out
                simp only at g0 g1 g2 g3 g4
                rw [h5] at e0 ez
                have hsl : (S.bk.send ⟨y0, y1, y2⟩ q).sent.length ≤ 20000 := by
                  have := HSO.out.sent
                  simp only [Bk.send, List.length_append, List.length_replicate]; omega
                obtain ⟨sl, hsl2⟩ : ∃ sl, sl = (S.bk.send ⟨y0, y1, y2⟩ q).sent := ⟨_, rfl⟩
                rw [← hsl2] at eps hsl
                obtain ⟨sa, sc, hvf, -⟩ := eps.read
                obtain ⟨ln, hln⟩ : ∃ ln, ln = sl.length := ⟨_, rfl⟩
                rw [← hln] at hvf
                have hvS : ∀ g, sv.ownBlock = some g → b.S = some g := eS
                subst hvf
                have hWq : W8.heap.size ≤ wr.heap.size := hBq.out.size
                have HPO := Lib.hid eps
                have HLEN : Hid (sl.length + [(⟨y0, y1, y2⟩ : Pk)].length ≤ 1000000000) := by unfold Hid; simp; omega
                have hU : Upd [] wr ((wr.alloc (.cells #[.int .i64 y0, .int .i64 y1, .string y2] 31)).drew) := ((Upd.refl _ _).alloc _).drew
                have HU := Lib.hid hU
                have HXL : Hid (PkList ((wr.alloc (.cells #[.int .i64 y0, .int .i64 y1, .string y2] 31)).drew) (.slice (some ⟨wr.heap.size, 0, none⟩) 1 1) [⟨y0, y1, y2⟩]) := by
                  refine ⟨_, 1, rfl, fun _ => ⟨wr.heap.size, rfl, fun i hi => ?_⟩⟩
                  obtain rfl : i = 0 := by simpa using hi
                  have hn : ((wr.alloc (.cells #[.int .i64 y0, .int .i64 y1, .string y2] 31)).drew).heap[wr.heap.size]? = some (.cells #[.int .i64 y0, .int .i64 y1, .string y2] 31 (0, 0)) := heap_alloc_new wr _
                  obtain ⟨x0, x1, x2, -⟩ := row_cells3 hn
                  exact ⟨x0, x1, x2⟩
                have HKP : Hid (∀ (w' : World) (c o : Nat) (u : Value), Upd (Value.slice sa ln sc).ownBlock.toList ((wr.alloc (.cells #[.int .i64 y0, .int .i64 y1, .string y2] 31)).drew) w' → wr.cell? ⟨c, o, none⟩ = some u → (c = R ∨ c = ob) → w'.cell? ⟨c, o, none⟩ = some u ∧ w'.frozen? ⟨c, o, none⟩ = wr.frozen? ⟨c, o, none⟩) := by
                  intro w' c o u hu hc hcc
                  have hnb : c ∉ (Value.slice sa ln sc).ownBlock.toList := by
                    intro hm
                    have hm' : (Value.slice sa ln sc).ownBlock = some c := by simpa using hm
                    rcases hcc with rfl | rfl
                    · exact (h2.ok.sb _ (hvS c hm')).1 h5.symm
                    · have := HPO.out.ge _ hm'; have := Z8.out; omega
                  have hc' := HU.out.cell hc (by simp)
                  exact ⟨hu.cell hc' hnb, (hu.frozen (World.block_lt_of_cell? _ _ hc') hnb).trans (HU.out.frozen (World.block_lt_of_cell? _ _ hc) (by simp))⟩
                have HPOST : Hid (∀ w' v', PksAt w' W8.heap.size v' (sl ++ [⟨y0, y1, y2⟩]) → Upd (Value.slice sa ln sc).ownBlock.toList ((wr.alloc (.cells #[.int .i64 y0, .int .i64 y1, .string y2] 31)).drew) w' → (v'.ownBlock = (Value.slice sa ln sc).ownBlock ∨ ∃ g, v'.ownBlock = some g ∧ ((wr.alloc (.cells #[.int .i64 y0, .int .i64 y1, .string y2] 31)).drew).heap.size ≤ g) →
                    Both W8 f0 base R (w'.setCell ⟨R, 0, none⟩ v') N' (S.bk.send ⟨y0, y1, y2⟩ (q + 1))) := by
                  intro w' v' x1 x2 x3
                  obtain ⟨b', z1, z2⟩ := (h2.upd HU.out (by simp)).addSent (by rw [h5]; exact HU.out.cell e0 (by simp)) x1 x2 x3
                  have := Both.book (h1.upd HU.out (by simp)) (h2.upd HU.out (by simp)) h3 (h4.trans (.same HU.out)) z1 z2
                  rw [h5] at this
                  have e : S.bk.send ⟨y0, y1, y2⟩ (q + 1) = { S.bk.send ⟨y0, y1, y2⟩ q with sent := sl ++ [⟨y0, y1, y2⟩] } := by
                    rw [hsl2]; simp [Bk.send, List.replicate_succ']
                  rw [e]
                  exact this
                have HEZ : Hid (wr.frozen? ⟨R, 0, none⟩ = false) := ez 0
                have HE0 := Lib.hid e0
                have n0 := World.new_ne wr _ e0
                have n1 := World.new_ne wr _ g2
                clear h1 h2 h3 h4 h5 ez eps eS hvS hln hsl2 hU hBq d0 d1 d2 d3 d4
                go_wp2_with fail
                refine late_begin (fun w' => w'.cell? ⟨R, 0, none⟩ = some (.slice sa ln sc) ∧ w'.cell? ⟨ob, oo + k * 5 + 2, none⟩ = some (.int .i64 y0) ∧ w'.cell? ⟨ob, oo + k * 5 + 3, none⟩ = some (.int .i64 y1) ∧ w'.cell? ⟨ob, oo + k * 5 + 4, none⟩ = some (.string y2)) 10 (by kernel_rfl) ⟨e0, g2, g3, g4⟩ (fun hHeld => ?_)
                refine late_take (i := 0) (v := ?_) rfl (by kernel_rfl) (by kernel_rfl) (by kernel_rfl) (by kernel_rfl) (fun _ _ _ h => h) (Or.inl ⟨by rfl, ?_⟩) (by assumption) ?_
                rotate_left
                · intro w hSw; (try dsimp only at hSw); (try go_simp); all_goals with_reducible rfl
                try simp only [Act.put, List.setIfInBounds_toArray, List.set_cons_zero, List.set_cons_succ]
                refine late_take (i := 1) (v := ?_) rfl (by kernel_rfl) (by kernel_rfl) (by kernel_rfl) (by kernel_rfl) (fun _ _ _ h => h) (Or.inl ⟨by rfl, ?_⟩) (by assumption) ?_
                rotate_left
                · intro w hSw; (try dsimp only at hSw); (try go_simp); all_goals with_reducible rfl
                try simp only [Act.put, List.setIfInBounds_toArray, List.set_cons_zero, List.set_cons_succ]
                refine late_take (i := 2) (v := ?_) rfl (by kernel_rfl) (by kernel_rfl) (by kernel_rfl) (by kernel_rfl) (fun _ _ _ h => h) (Or.inl ⟨by rfl, ?_⟩) (by assumption) ?_
                rotate_left
                · intro w hSw; (try dsimp only at hSw); (try go_simp); all_goals with_reducible rfl
                try simp only [Act.put, List.setIfInBounds_toArray, List.set_cons_zero, List.set_cons_succ]
                refine late_take (i := 3) (v := ?_) rfl (by kernel_rfl) (by kernel_rfl) (by kernel_rfl) (by kernel_rfl) (fun _ _ _ h => h) (Or.inl ⟨by rfl, ?_⟩) (by assumption) ?_
                rotate_left
                · intro w hSw; (try dsimp only at hSw); (try go_simp); all_goals with_reducible rfl
                try simp only [Act.put, List.setIfInBounds_toArray, List.set_cons_zero, List.set_cons_succ]
                refine late_take (i := 4) (v := ?_) rfl (by kernel_rfl) (by kernel_rfl) (by kernel_rfl) (by kernel_rfl) (fun _ _ _ h => h) (Or.inl ⟨by rfl, ?_⟩) (by assumption) ?_
                rotate_left
                · intro w hSw; (try dsimp only at hSw); (try go_simp); all_goals with_reducible rfl
                try simp only [Act.put, List.setIfInBounds_toArray, List.set_cons_zero, List.set_cons_succ]
                refine late_take (i := 5) (v := ?_) rfl (by kernel_rfl) (by kernel_rfl) (by kernel_rfl) (by kernel_rfl) (fun _ _ _ h => h) (Or.inl ⟨by rfl, ?_⟩) (by assumption) ?_
                rotate_left
                · intro w hSw; (try dsimp only at hSw); (try go_simp); all_goals with_reducible rfl
                try simp only [Act.put, List.setIfInBounds_toArray, List.set_cons_zero, List.set_cons_succ]
                refine late_take (i := 6) (v := ?_) rfl (by kernel_rfl) (by kernel_rfl) (by kernel_rfl) (by kernel_rfl) (fun _ _ _ h => h) (Or.inl ⟨by rfl, ?_⟩) (by assumption) ?_
                rotate_left
                · intro w hSw; (try dsimp only at hSw); (try go_simp); all_goals with_reducible rfl
                try simp only [Act.put, List.setIfInBounds_toArray, List.set_cons_zero, List.set_cons_succ]
                refine late_one (i := 7) (by kernel_rfl) rfl (fun K hK => ?_)
                go_simp
                have hHeld2 := (⟨HU.out.cell e0 (by simp), HU.out.cell g2 (by simp), HU.out.cell g3 (by simp), HU.out.cell g4 (by simp)⟩ : ((wr.alloc (.cells #[.int .i64 y0, .int .i64 y1, .string y2] 31)).drew).cell? ⟨R, 0, none⟩ = some (.slice sa ln sc) ∧ ((wr.alloc (.cells #[.int .i64 y0, .int .i64 y1, .string y2] 31)).drew).cell? ⟨ob, oo + k * 5 + 2, none⟩ = some (.int .i64 y0) ∧ ((wr.alloc (.cells #[.int .i64 y0, .int .i64 y1, .string y2] 31)).drew).cell? ⟨ob, oo + k * 5 + 3, none⟩ = some (.int .i64 y1) ∧ ((wr.alloc (.cells #[.int .i64 y0, .int .i64 y1, .string y2] 31)).drew).cell? ⟨ob, oo + k * 5 + 4, none⟩ = some (.string y2))
                refine hK.out _ _ (fun _ => hHeld2) ?_
                clear hK K hHeld hHeld2
                try simp only [Act.put, List.setIfInBounds_toArray, List.set_cons_zero, List.set_cons_succ]
                refine late_one (i := 8) (by kernel_rfl) rfl (fun K hK => ?_)
                refine step_append_pks rfl _ _ (by rfl) (base := W8.heap.size) (l := sl) (out := [⟨y0, y1, y2⟩]) ((HPO.out.alloc _).drew) HXL (by rfl) (by rfl) HLEN.out (Nat.le_trans hWq HU.out.size) ?_
                intro v' w6 q1 q2 q3
                have j0 := (HKP.out w6 _ _ _ q2.out e0 (.inl rfl)).1
                have j2 := (HKP.out w6 _ _ _ q2.out g2 (.inr rfl)).1
                have j3 := (HKP.out w6 _ _ _ q2.out g3 (.inr rfl)).1
                have j4 := (HKP.out w6 _ _ _ q2.out g4 (.inr rfl)).1
                have jz := (HKP.out w6 _ _ _ q2.out HE0.out (.inl rfl)).2
                rw [HEZ.out] at jz
                have HP6 := Lib.hid (HPOST.out w6 v' q1.out q2.out q3.out)
                obtain ⟨a6, c6, rfl, -⟩ := q1.out.read
                clear q1 q2 q3
                refine hK.out _ _ (fun _ => ⟨j0, j2, j3, j4⟩) ?_
                clear hK K
                try simp only [Act.put, List.setIfInBounds_toArray, List.set_cons_zero, List.set_cons_succ]
                refine late_one (i := 9) (by kernel_rfl) rfl (fun K hK => ?_)
                go_simp
                refine hK.out _ _ (fun _ => ⟨j0, j2, j3, j4⟩) ?_
                clear hK K
                try simp only [Act.put, List.setIfInBounds_toArray, List.set_cons_zero, List.set_cons_succ]
                refine late_one (i := 10) (by kernel_rfl) rfl (fun K hK => ?_)
                go_simp
                refine hK.out _ _ (fun h => absurd rfl h) ?_
                clear hK K
                try simp only [Act.put, List.setIfInBounds_toArray, List.set_cons_zero, List.set_cons_succ]
                refine late_done (by kernel_rfl) ?_ _
                go_wp2_with fail
                exact ⟨⟨q + 1, by omega, by go_num, by have := HP6.out; simpa [Hid] using this⟩, by simp [intOf]; omega⟩
              · obtain rfl : q = mn := by omega
                go_wp2_with fail
                exact ⟨⟨k + 1, by omega, by go_num, by rw [HST.out, HEQ.out]; go_num, by unfold Hid; rw [HST.out, HEQ.out]; exact hBq.out⟩, by simp [intOf]; omega⟩
        · have hrb : (r != 0) = true := by simpa using hr0
          have HEQ : Hid (S.step fs ⟨0, yh, ⟨y0, y1, y2⟩⟩ = { S with net := N' }) := by
            unfold Hid PS.step
            rw [if_pos rfl, if_neg (by rw [← hr]; exact hr0), ← hN']
          clear hr hN' hr0
          go_wp2_with (go_at_call 14; refine HSND.out.mono ?_; rintro e w5 ⟨rfl, hb5⟩; have HB5 := Lib.hid hb5; clear hb5)
          exact ⟨⟨k + 1, by omega, by go_num, by rw [HST.out, HEQ.out], by unfold Hid; rw [HST.out, HEQ.out]; exact HB5.out⟩, by simp [intOf]; omega⟩
      · by_cases k1 : yk = 1
        · subst k1
          have hwl : S.net.ways.length = n := HSO.out.ways
          by_cases hh : S.net.has yh = true
          · have hlt' := has_lt hh
            have hge : 0 ≤ yh := by simp only [NS.has, decide_eq_true_eq] at hh; omega
            obtain ⟨h9, rfl⟩ := Int.eq_ofNat_of_zero_le hge
            have hh9 : h9 < S.net.ways.length := by simpa using hlt'
            have HRV := Lib.hid (both_recv hB.out HSO.out.wf h9 hh9)
            have hhI : (h9 : Int) < (n : Int) := by omega
            have HH9 := Lib.hid hh9
            have HEQ : Hid (S.step fs ⟨1, h9, ⟨y0, y1, y2⟩⟩ = { S with net := S.net.recv h9, bk := S.bk.recv h9 (S.net.got h9) }) := by
              unfold Hid PS.step
              rw [if_neg (by simp), if_pos rfl, if_pos hh]
              simp
            clear hh hlt' hge hwl
            go_wp2_with (go_at_call 16; refine HRV.out.mono ?_; rintro e w5 ⟨v, rfl, hp5, hb5⟩; have HP5 := Lib.hid hp5; have HB5 := Lib.hid hb5; obtain ⟨d0, d1, d2, d3, d4⟩ := HOLD.out hb5; obtain ⟨va, vc, rfl, -⟩ := hp5.read; simp only at d0 d1 d2 d3 d4; clear hp5 hb5 c0 c1 c2 c3 c4)
            obtain ⟨f, b, h1, h2, h3, h4, h5⟩ := HB5.out
            obtain ⟨sv, gs, e0, e1, ez, ezg, egl, egc, -, egp, -, egL⟩ := h2.cells
            have hgn : S.bk.got.length = n := HSO.out.got
            rw [hgn] at e1 egl
            rw [h5] at e1 ez
            have hwl : S.net.ways.length = n := HSO.out.ways
            obtain ⟨vo, hvo⟩ : ∃ vo, gs[h9]? = some vo := ⟨gs[h9]'(by omega), List.getElem?_eq_getElem _⟩
            obtain ⟨lo, hlo⟩ : ∃ lo, S.bk.got[h9]? = some lo := ⟨S.bk.got[h9]'(by omega), List.getElem?_eq_getElem _⟩
            have hpo := egp h9 vo lo hvo hlo
            have e2 := egc h9 vo hvo
            have hloD : S.bk.got.getD h9 [] = lo := by rw [List.getD_eq_getElem?_getD, hlo]; rfl
            have hlol : lo.length ≤ 4000000 := HSO.out.gl lo (List.mem_of_getElem? hlo)
            have hgol := got_len S.net h9 HSO.out.wf
            have hW5 : W8.heap.size ≤ w5.heap.size := HB5.out.size
            obtain ⟨oa', oc', hvf, -⟩ := hpo.read
            obtain ⟨on, hon⟩ : ∃ on, on = (S.net.got h9).length := ⟨_, rfl⟩
            rw [← hon] at hgol HP5
            rw [← hon]
            obtain ⟨ln, hln⟩ : ∃ ln, ln = lo.length := ⟨_, rfl⟩
            rw [← hln] at hvf hlol
            have hvL : ∀ g, vo.ownBlock = some g → some g ∈ b.L := fun g hg => egL h9 vo g hvo hg
            subst hvf
            have HPO := Lib.hid hpo
            have HXL : Hid (PkList w5.drew (.slice va on vc) (S.net.got h9)) := by
              have := HP5.out.read
              exact this.upd ((Upd.refl _ _).drew)
            have HLEN : Hid (lo.length + (S.net.got h9).length ≤ 1000000000) := by unfold Hid; omega
            have HKP : Hid (∀ (w' : World) (c o : Nat) (u : Value), Upd (Value.slice oa' ln oc').ownBlock.toList w5.drew w' → w5.cell? ⟨c, o, none⟩ = some u → (c = R ∨ c = ob ∨ c = b.G) → w'.cell? ⟨c, o, none⟩ = some u ∧ w'.frozen? ⟨c, o, none⟩ = w5.frozen? ⟨c, o, none⟩) := by
              intro w' c o u hu hc hcc
              have hnb : c ∉ (Value.slice oa' ln oc').ownBlock.toList := by
                intro hm
                have hm' : (Value.slice oa' ln oc').ownBlock = some c := by simpa using hm
                have hmL := hvL c hm'
                rcases hcc with rfl | rfl | rfl
                · exact (h2.ok.lb _ hmL).1 h5.symm
                · have := HPO.out.ge _ hm'; have := Z8.out; omega
                · exact (h2.ok.lb _ hmL).2.1 rfl
              have hd : Upd [] w5 w5.drew := (Upd.refl _ _).drew
              have hc' := hd.cell hc (by simp)
              exact ⟨hu.cell hc' hnb, (hu.frozen (World.block_lt_of_cell? _ _ hc') hnb).trans (hd.frozen (World.block_lt_of_cell? _ _ hc) (by simp))⟩
            have HPOST : Hid (∀ w' v', PksAt w' W8.heap.size v' (lo ++ S.net.got h9) → Upd (Value.slice oa' ln oc').ownBlock.toList w5.drew w' → (v'.ownBlock = (Value.slice oa' ln oc').ownBlock ∨ ∃ g, v'.ownBlock = some g ∧ w5.drew.heap.size ≤ g) →
                Both W8 f0 base R (w'.setCell ⟨b.G, h9, none⟩ v') (S.net.recv h9) (S.bk.recv h9 (S.net.got h9))) := by
              intro w' v' x1 x2 x3
              have hd : Upd [] w5 w5.drew := (Upd.refl _ _).drew
              obtain ⟨b', y1, y2⟩ := (h2.upd hd (by simp)).addGot h9 (by omega) (hd.cell e2 (by simp)) x1 x2 x3
              have := Both.book (h1.upd hd (by simp)) (h2.upd hd (by simp)) h3 (h4.trans (.same hd)) y1 y2
              rw [h5] at this
              unfold Bk.recv
              rw [hloD]
              exact this
            have HEZ : Hid (w5.frozen? ⟨b.G, h9, none⟩ = false) := ezg h9
            have m1 : ¬ R = b.G := fun e => h2.ok.rg (h5.trans e)
            have m1' : ¬ b.G = R := fun e => m1 e.symm
            have HE2 := Lib.hid e2
            have HOBG : ¬ ob = b.G := fun e => by have := h2.ge _ (BFoot.mem.2 (.inr (.inl e))); have := Z8.out; omega
            have HOBG' : ¬ b.G = ob := fun e => HOBG e.symm
            clear h1 h2 h3 h4 h5 e0 ez ezg egl egc egp egL hgn hwl hvo hlo hpo hloD hvL HB5 HOLD hB hon hln
            have n0 := World.new_ne w5 _ e1
            have n1 := World.new_ne w5 _ d1
            refine late_begin (fun w' => w'.cell? ⟨R, 1, none⟩ = some (.slice (some ⟨b.G, 0, none⟩) n n) ∧ w'.cell? ⟨ob, oo + k * 5 + 1, none⟩ = some (.int .i64 h9)) 19 (by kernel_rfl) ⟨e1, d1⟩ (fun hHeld => ?_)
            refine late_take (i := 0) (v := ?_) rfl (by kernel_rfl) (by kernel_rfl) (by kernel_rfl) (by kernel_rfl) (fun _ _ _ h => h) (Or.inl ⟨by rfl, ?_⟩) (by assumption) ?_
            rotate_left
            · intro w hSw; (try dsimp only at hSw); (try go_simp); all_goals with_reducible rfl
            try simp only [Act.put, List.setIfInBounds_toArray, List.set_cons_zero, List.set_cons_succ]
            refine late_take (i := 1) (v := ?_) rfl (by kernel_rfl) (by kernel_rfl) (by kernel_rfl) (by kernel_rfl) (fun _ _ _ h => h) (Or.inl ⟨by rfl, ?_⟩) (by assumption) ?_
            rotate_left
            · intro w hSw; (try dsimp only at hSw); (try go_simp); all_goals with_reducible rfl
            try simp only [Act.put, List.setIfInBounds_toArray, List.set_cons_zero, List.set_cons_succ]
            refine late_take (i := 2) (v := ?_) rfl (by kernel_rfl) (by kernel_rfl) (by kernel_rfl) (by kernel_rfl) (fun _ _ _ h => h) (Or.inl ⟨by rfl, ?_⟩) (by assumption) ?_
            rotate_left
            · intro w hSw; (try dsimp only at hSw); (try go_simp); all_goals with_reducible rfl
            try simp only [Act.put, List.setIfInBounds_toArray, List.set_cons_zero, List.set_cons_succ]
            refine late_take (i := 3) (v := ?_) rfl (by kernel_rfl) (by kernel_rfl) (by kernel_rfl) (by kernel_rfl) (fun _ _ _ h => h) (Or.inl ⟨by rfl, ?_⟩) (by assumption) ?_
            rotate_left
            · intro w hSw; (try dsimp only at hSw); (try go_simp); all_goals with_reducible rfl
            try simp only [Act.put, List.setIfInBounds_toArray, List.set_cons_zero, List.set_cons_succ]
            refine late_take (i := 4) (v := ?_) rfl (by kernel_rfl) (by kernel_rfl) (by kernel_rfl) (by kernel_rfl) (fun _ _ _ h => h) (Or.inl ⟨by rfl, ?_⟩) (by assumption) ?_
            rotate_left
            · intro w hSw; (try dsimp only at hSw); (try go_simp); all_goals with_reducible rfl
            try simp only [Act.put, List.setIfInBounds_toArray, List.set_cons_zero, List.set_cons_succ]
            refine late_take (i := 5) (v := ?_) rfl (by kernel_rfl) (by kernel_rfl) (by kernel_rfl) (by kernel_rfl) (fun _ _ _ h => h) (Or.inl ⟨by rfl, ?_⟩) (by assumption) ?_
            rotate_left
            · intro w hSw; (try dsimp only at hSw); (try go_simp); all_goals with_reducible rfl
            try simp only [Act.put, List.setIfInBounds_toArray, List.set_cons_zero, List.set_cons_succ]
            refine late_take (i := 6) (v := ?_) rfl (by kernel_rfl) (by kernel_rfl) (by kernel_rfl) (by kernel_rfl) (fun _ _ _ h => h) (Or.inl ⟨by rfl, ?_⟩) (by assumption) ?_
            rotate_left
            · intro w hSw; (try dsimp only at hSw); (try go_simp); all_goals with_reducible rfl
            try simp only [Act.put, List.setIfInBounds_toArray, List.set_cons_zero, List.set_cons_succ]
            refine late_take (i := 7) (v := ?_) rfl (by kernel_rfl) (by kernel_rfl) (by kernel_rfl) (by kernel_rfl) (fun _ _ _ h => h) (Or.inl ⟨by rfl, ?_⟩) (by assumption) ?_
            rotate_left
            · intro w hSw; (try dsimp only at hSw); (try go_simp); all_goals with_reducible rfl
            try simp only [Act.put, List.setIfInBounds_toArray, List.set_cons_zero, List.set_cons_succ]
            refine late_take (i := 8) (v := ?_) rfl (by kernel_rfl) (by kernel_rfl) (by kernel_rfl) (by kernel_rfl) (fun _ _ _ h => h) (Or.inl ⟨by rfl, ?_⟩) (by assumption) ?_
            rotate_left
            · intro w hSw; (try dsimp only at hSw); (try go_simp); all_goals with_reducible rfl
            try simp only [Act.put, List.setIfInBounds_toArray, List.set_cons_zero, List.set_cons_succ]
            refine late_take (i := 9) (v := ?_) rfl (by kernel_rfl) (by kernel_rfl) (by kernel_rfl) (by kernel_rfl) (fun _ _ _ h => h) (Or.inl ⟨by rfl, ?_⟩) (by assumption) ?_
            rotate_left
            · intro w hSw; (try dsimp only at hSw); (try go_simp); all_goals with_reducible rfl
            try simp only [Act.put, List.setIfInBounds_toArray, List.set_cons_zero, List.set_cons_succ]
            refine late_take (i := 10) (v := ?_) rfl (by kernel_rfl) (by kernel_rfl) (by kernel_rfl) (by kernel_rfl) (fun _ _ _ h => h) (Or.inl ⟨by rfl, ?_⟩) (by assumption) ?_
            rotate_left
            · intro w hSw; (try dsimp only at hSw); (try go_simp); all_goals with_reducible rfl
            try simp only [Act.put, List.setIfInBounds_toArray, List.set_cons_zero, List.set_cons_succ]
            refine late_take (i := 11) (v := ?_) rfl (by kernel_rfl) (by kernel_rfl) (by kernel_rfl) (by kernel_rfl) (fun _ _ _ h => h) (Or.inl ⟨by rfl, ?_⟩) (by assumption) ?_
            rotate_left
            · intro w hSw; (try dsimp only at hSw); (try go_simp); all_goals with_reducible rfl
            try simp only [Act.put, List.setIfInBounds_toArray, List.set_cons_zero, List.set_cons_succ]
            refine late_take (i := 12) (v := ?_) rfl (by kernel_rfl) (by kernel_rfl) (by kernel_rfl) (by kernel_rfl) (fun _ _ _ h => h) (Or.inl ⟨by rfl, ?_⟩) (by assumption) ?_
            rotate_left
            · intro w hSw; (try dsimp only at hSw); (try go_simp); all_goals with_reducible rfl
            try simp only [Act.put, List.setIfInBounds_toArray, List.set_cons_zero, List.set_cons_succ]
            refine late_take (i := 13) (v := ?_) rfl (by kernel_rfl) (by kernel_rfl) (by kernel_rfl) (by kernel_rfl) (fun _ _ _ h => h) (Or.inl ⟨by rfl, ?_⟩) (by assumption) ?_
            rotate_left
            · intro w hSw; (try dsimp only at hSw); (try go_simp); all_goals with_reducible rfl
            try simp only [Act.put, List.setIfInBounds_toArray, List.set_cons_zero, List.set_cons_succ]
            refine late_take (i := 14) (v := ?_) rfl (by kernel_rfl) (by kernel_rfl) (by kernel_rfl) (by kernel_rfl) (fun _ _ _ h => h) (Or.inl ⟨by rfl, ?_⟩) (by assumption) ?_
            rotate_left
            · intro w hSw; (try dsimp only at hSw); (try go_simp); all_goals with_reducible rfl
            try simp only [Act.put, List.setIfInBounds_toArray, List.set_cons_zero, List.set_cons_succ]
            refine late_take (i := 16) (v := ?_) rfl (by kernel_rfl) (by kernel_rfl) (by kernel_rfl) (by kernel_rfl) (fun _ _ _ h => h) (Or.inl ⟨by rfl, ?_⟩) (by assumption) ?_
            rotate_left
            · intro w hSw; (try dsimp only at hSw); (try go_simp); all_goals with_reducible rfl
            try simp only [Act.put, List.setIfInBounds_toArray, List.set_cons_zero, List.set_cons_succ]
            -- END OF TAKES
            refine late_one (i := 15) (by kernel_rfl) rfl (fun K hK => ?_)
            go_simp
            refine hK.out _ _ (fun _ => hHeld) ?_
            clear hK K
            try simp only [Act.put, List.setIfInBounds_toArray, List.set_cons_zero, List.set_cons_succ]
            refine late_one (i := 17) (by kernel_rfl) rfl (fun K hK => ?_)
            refine step_append_pks rfl _ _ (by rfl) (w := w5.drew) (base := W8.heap.size) (l := lo) (out := S.net.got h9) (HPO.out.drew) HXL (by rfl) (by rfl) HLEN.out hW5 ?_
            intro v' w6 q1 q2 q3
            have j0 := (HKP.out w6 _ _ _ q2.out e1 (.inl rfl)).1
            have j1 := (HKP.out w6 _ _ _ q2.out d1 (.inr (.inl rfl))).1
            have j2 := (HKP.out w6 _ _ _ q2.out HE2.out (.inr (.inr rfl))).1
            have jz := (HKP.out w6 _ _ _ q2.out HE2.out (.inr (.inr rfl))).2
            rw [HEZ.out] at jz
            have HP6 := Lib.hid (HPOST.out w6 v' q1.out q2.out q3.out)
            obtain ⟨a6, c6, rfl, -⟩ := q1.out.read
            clear q1 q2 q3 hHeld
            refine hK.out _ _ (fun _ => ⟨j0, j1⟩) ?_
            clear hK K
            try simp only [Act.put, List.setIfInBounds_toArray, List.set_cons_zero, List.set_cons_succ]
            refine late_one (i := 18) (by kernel_rfl) rfl (fun K hK => ?_)
            go_simp
            refine hK.out _ _ (fun _ => ⟨j0, j1⟩) ?_
            clear hK K
            try simp only [Act.put, List.setIfInBounds_toArray, List.set_cons_zero, List.set_cons_succ]
            refine late_one (i := 19) (by kernel_rfl) rfl (fun K hK => ?_)
            go_simp
            refine hK.out _ _ (fun h => absurd rfl h) ?_
            clear hK K
            try simp only [Act.put, List.setIfInBounds_toArray, List.set_cons_zero, List.set_cons_succ]
            refine late_done (by kernel_rfl) ?_ _
            go_wp2_with fail
            exact ⟨⟨k + 1, by omega, by go_num, by rw [HST.out, HEQ.out], by unfold Hid; rw [HST.out, HEQ.out]; have := HP6.out; rw [List.length_append] at this; exact this⟩, by simp [intOf]; omega⟩
          · have hh : S.net.has yh = false := by simpa using hh
            have HRV := Lib.hid (both_bad hB.out HSO.out.wf yh hh)
            have HEQ : Hid (S.step fs ⟨1, yh, ⟨y0, y1, y2⟩⟩ = S) := by
              unfold Hid PS.step
              rw [if_neg (by simp), if_pos rfl, if_neg (by simp [hh])]
            clear hh hwl
            go_wp2_with (go_at_call 16; refine HRV.out.mono ?_; rintro e w5 ⟨rfl, rfl⟩)
            exact ⟨⟨k + 1, by omega, by go_num, by rw [HST.out, HEQ.out], by unfold Hid; rw [HST.out, HEQ.out]; exact hB.out⟩, by simp [intOf]; omega⟩
        · have b0 : (yk == 0) = false := by simpa using k0
          have b1 : (yk == 1) = false := by simpa using k1
          have HSTEP := Lib.hid (both_step hB.out (by have := HSO.out.time; omega))
          have HEQ : Hid (S.step fs ⟨yk, yh, ⟨y0, y1, y2⟩⟩ = { S with net := S.net.step }) := by
            unfold Hid PS.step
            rw [if_neg (by simpa using k0), if_neg (by simpa using k1)]
          clear k0 k1
          go_wp2_with (go_at_call 19; refine HSTEP.out.mono ?_; rintro e w5 ⟨rfl, hb5⟩; have HB5 := Lib.hid hb5; clear hb5)
          exact ⟨⟨k + 1, by omega, by go_num, by rw [HST.out, HEQ.out], by unfold Hid; rw [HST.out, HEQ.out]; exact HB5.out⟩, by simp [intOf]; omega⟩
    · obtain rfl : k = l.length := by omega
      obtain ⟨f', b, h1, h2, h3, h4, h5⟩ := hB.out
      obtain ⟨sv, hRb, hrd⟩ := h2.read
      have hRv := hRb
      rw [h5] at hRv
      have hgl := h2.ex
      obtain ⟨sv', gs, e1, -, e3, -, -, e6, -⟩ := hgl
      have hgot : (PS.run fs s0 (l.take l.length)).bk.got.length = n := by
        have := PS.run_ok HR.out (l.take l.length) HOK.out 2000 10000 4000000 (by rw [List.length_take]; omega) (by rw [List.length_take]; omega) (by rw [List.length_take]; omega)
        exact this.got
      rw [hgot] at hRv
      have hsv : sv' = sv := by
        rw [hRb] at e1
        simp [bookObj] at e1
        exact e1.symm
      subst hsv
      obtain ⟨sa, sc, rfl, -⟩ := e6.read
      have r0 : wr.cell? ⟨R, 0, none⟩ = some (.slice sa (PS.run fs s0 (l.take l.length)).bk.sent.length sc) := by rw [cell_of_row wr R 0 _ 46 (0, 0) hRv]; rfl
      have r1 : wr.cell? ⟨R, 1, none⟩ = some (.slice (some ⟨b.G, 0, none⟩) n n) := by rw [cell_of_row wr R 1 _ 46 (0, 0) hRv]; rfl
      have h8 : wr.heap[w.heap.size]? = some (.cells #[.slice none 0 0, .slice none 0 0] 46 (0, 0)) := by
        rw [h4.upd.block _ (by have := Z8.out; omega) (fun hm => absurd (HN.out.lt _ hm) (by omega))]
        exact R8.out
      have t0 : wr.cell? ⟨w.heap.size, 0, none⟩ = some (.slice none 0 0) := by rw [cell_of_row wr _ 0 _ 46 (0, 0) h8]; rfl
      have t1 : wr.cell? ⟨w.heap.size, 1, none⟩ = some (.slice none 0 0) := by rw [cell_of_row wr _ 1 _ 46 (0, 0) h8]; rfl
      have tz : ∀ i, wr.frozen? ⟨w.heap.size, i, none⟩ = false := by intro i; simp [World.frozen?, h8]
      obtain ⟨sl, hsl⟩ : ∃ sl, sl = (PS.run fs s0 (l.take l.length)).bk.sent.length := ⟨_, rfl⟩
      rw [← hsl] at r0
      have HFIN : Hid (∀ w', Upd [w.heap.size] wr w' → PlayPost base f0 (PS.run fs s0 l) n w (.returned (.agg #[.slice sa sl sc, .slice (some ⟨b.G, 0, none⟩) n n])) w') := by
        intro w' hu
        rw [List.take_length] at hrd h1 hsl
        rw [hsl]
        have z8 := Z8.out
        have hsz := hu.size
        refine ⟨_, b.G, f', rfl, ?_, ?_, ?_⟩
        · have hb := hrd.upd hu (fun j hj hj2 hm => by simp at hm; omega) (Nat.le_refl _)
          refine ⟨PksAt.mono hb.sent (by omega), fun j hj => Nat.lt_of_lt_of_le (hb.sh j hj) hsz, by have := hb.glo; omega, Nat.lt_of_lt_of_le hb.ghi hsz, fun i q hq => ?_⟩
          obtain ⟨v, x1, x2, x3⟩ := hb.row i q hq
          exact ⟨v, x1, x2.mono (by omega), fun j hj => Nat.lt_of_lt_of_le (x3 j hj) hsz⟩
        · refine h1.upd hu fun j hj hm => ?_
          obtain rfl : j = w.heap.size := by simpa using hm
          rcases h4.sub _ hj with hh | hh
          · exact absurd (HN.out.lt _ hh) (by omega)
          · omega
        · have hT : NTurn f0 f' w wr := (NTurn.same U8.out).trans h4
          exact ⟨hT.upd.then hu (fun i hi => .inr (by simp at hi; omega)), hT.sub, hT.B⟩
      clear h1 h2 h3 h4 h5 hRb hRv hrd e1 e3 e6 hgot h8 hB hsl
      go_wp2
      exact bodyPost_ret (v := .agg #[.slice sa sl sc, .slice (some ⟨b.G, 0, none⟩) n n]) (by simp [results, Try.results25, go_sem, t0, t1]) rfl (HFIN.out _ (((Upd.refl _ _).setCell (.inl (by simp)) _).setCell (.inl (by simp)) _))
end Go.Proofs.Ytlmfgdibodpniaa
