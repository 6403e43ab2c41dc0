/- contents: all sectors of a disk that is on. -/
import Derived.Test.YtcihncgajkogkaaNew
namespace Go.Proofs.Ytcihncgajkogkaa
open Go.RowKit

def DS.all (s : DS) : List ByteArray := (List.range s.n).map s.get

theorem stAt_size (st : List UInt8) (n sec : Nat) (h : st.length = n * 32) (hs : sec < n) : (stAt st sec).size = 32 := by
  show ((st.drop (sec * 32)).take 32).toArray.size = 32
  rw [List.size_toArray, List.length_take, List.length_drop]; omega

theorem lastQ_mem {q : List (Nat × ByteArray)} {sec : Nat} {t : ByteArray} (h : lastQ q sec = some t) : ∃ p ∈ q, p.2 = t := by
  unfold lastQ at h
  obtain ⟨p, hp, rfl⟩ := Option.map_eq_some_iff.1 h
  exact ⟨p, by simpa using List.mem_of_find?_eq_some hp, rfl⟩

theorem get_size (s : DS) (hw : s.Wf) (sec : Nat) (hs : sec < s.n) : (s.get sec).size = 32 := by
  unfold DS.get
  cases h : lastQ s.q sec with
  | none => exact stAt_size _ _ _ hw.len hs
  | some t =>
    obtain ⟨p, hp, rfl⟩ := lastQ_mem h
    exact (hw.q p hp).2

theorem all_take (s : DS) (k : Nat) (hk : k < s.n) : s.all.take (k + 1) = s.all.take k ++ [s.get k] := by
  have : k < s.all.length := by simp [DS.all]; exact hk
  rw [List.take_succ_eq_append_getElem this]
  simp [DS.all]

theorem info9 : (Try.prog.info? 9).map (fun i => (i.zero, i.size, i.bytes)) = some (some (.string ByteArray.empty), 1, 16) := by kernel_rfl

/-- One string more. -/
theorem strs_push {w' : World} {base : Nat} {ss : List ByteArray} {g cap : Nat} (x : ByteArray)
    (h : w'.ownsRow base 9 1 (.slice (some ⟨g, 0, none⟩) (ss.length + 1) cap) (ss.length + 1) (strVals ss ++ [.string x])) : StrsAt w' base (.slice (some ⟨g, 0, none⟩) (ss.length + 1) cap) (ss ++ [x]) := by
  unfold StrsAt
  have e : (ss ++ [x]).length = ss.length + 1 := by simp
  rw [e]
  simpa [strVals] using h

set_option maxHeartbeats 1000000 in
theorem contents_any {w : World} {base : Nat} {f : Foot} {s : DS} (h : DiskAt w base f s) (hql : s.q.length ≤ 1000000) (ho : s.off = false) :
    Calls Try.prog 13 #[.pointer (some ⟨f.B, 0, none⟩), .int .i64 s.n] w fun e w' => ∃ v, e = .returned (.tuple #[v, .bool true]) ∧ StrsAt w' w.heap.size v s.all ∧ Upd [] w w' := by
  obtain ⟨i0, hi, hz0, hz1, hz2⟩ := info_parts info9
  have HD := Lib.hid h
  have hn := h.wf.n1
  have hlen : s.all.length = s.n := by simp [DS.all]
  have HL := Lib.hid hlen
  have HR : Hid (∀ k, k < s.n → s.read k = (s.get k, 0)) := by
    intro k hk
    unfold DS.read DS.atE
    rw [ho]
    simp
    omega
  clear h hlen
  go_enter Try.func13, Try.ntmps13
  go_wp2
  go_loopw [7, 6] (fun i v wr => ∃ k : Nat, k ≤ s.n ∧ i = .int .i64 k ∧ StrsAt wr w.heap.size v (s.all.take k) ∧ Upd [] w wr) (fun i _ _ => s.n - (intOf i).toNat)
  case atStart => exact ⟨0, Nat.zero_le _, rfl, World.ownsRow_nil _ _ _ _, Upd.refl _ _⟩
  case round =>
    obtain ⟨k, hk, rfl, hs, hu⟩ := hrel
    have HS := Lib.hid hs
    clear hs
    by_cases hlt : k < s.n
    · have HC := Lib.hid (read_any (HD.out.upd hu (by simp)) hql k)
      rw [HR.out k hlt] at HC
      have hg32 := get_size s HD.out.wf k hlt
      obtain ⟨x, hx⟩ : ∃ x, x = s.get k := ⟨_, rfl⟩
      rw [← hx] at HC hg32
      have HX := Lib.hid hx
      have hb : ((x.size : Int) != 32) = false := by rw [hg32]; rfl
      have H32 := Lib.hid hg32
      clear hx hg32
      obtain ⟨ss, hss⟩ : ∃ ss, ss = s.all.take k := ⟨_, rfl⟩
      rw [← hss] at HS
      have HSS := Lib.hid hss
      have hle : ss.length ≤ 4000 := by rw [hss, List.length_take]; omega
      clear hss
      go_wp2_with fail
      refine HC.out.mono ?_
      rintro e w2 ⟨rfl, hu2⟩
      have HU := Lib.hid (hu.trans hu2)
      have hz2' := (hu.trans hu2).size
      have HS2 : Hid (StrsAt w2 w.heap.size u6 ss) := ownsRow_upd HS.out fun j hj => hu2.block j (HS.out.lt j hj).2 (by simp)
      clear hu hu2 HS
      go_wp2_with (at_builtin; refine wpList_append_own2 _ rfl (.tmp 28) (.tmp 30) 34 rfl w.heap.size 9 i0 _ 1 16 Try.underlying34 hi hz0 hz1 hz2 rfl (by decide) _ _ _ rfl (HS2.out.alloc _) ⟨w2.heap.size, 0, none⟩ 1 1 [.string x] rfl rfl ?c1 ?c2 (by decide) ?c3 ?c4 ?c5 ?_)
      case c1 => exact cell_one_new _ _ _
      case c2 => intro u hu; simp at hu; subst hu; rfl
      case c3 => unfold maxLen; omega
      case c4 => omega
      case c5 => simp; omega
      intro g cap w3 hown hgr hnew
      have HS3 : Hid (StrsAt w3 w.heap.size (.slice (some ⟨g, 0, none⟩) (ss.length + 1) cap) (s.all.take (k + 1))) := by
        unfold Hid
        rw [all_take s k hlt, ← HSS.out, ← HX.out]
        exact strs_push x hown
      have HU3 : Hid (Upd [] w w3) := (HU.out.alloc _).grown hgr (fun j hj => .inr (HS2.out.lt j hj).1)
      clear hown hgr hnew HS2 HU
      go_wp2
      go_roundw
      case rel => exact ⟨k + 1, by omega, by go_num, HS3.out, HU3.out⟩
      case measure => simp [intOf]; omega
    · have e : k = s.n := by omega
      go_wp2
      go_ret2
      refine ⟨u6, rfl, ?_, hu⟩
      have h2 := HS.out
      rw [e, ← HL.out, List.take_length] at h2
      exact h2

end Go.Proofs.Ytcihncgajkogkaa
