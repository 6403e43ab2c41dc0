/- copy(dst, s) from a string, cut to dst's length; bytes back to a string. -/
import Derived.Test.YtcihncgajkogkaaBase
import Derived.Laws.CopyOwn
import Derived.Laws.CopyRow
import Derived.Laws.BytesString
import Derived.StillTailTactics
namespace Go.Proofs.Ytcihncgajkogkaa
open Go.RowKit

def byteCell (b : UInt8) : Value := .int .u8 b.toNat
def byteVals (l : List UInt8) : List Value := l.map byteCell

section
variable {P : Program}
theorem run_copy_str (w : World) (dT sT ty elem : TypeId) (g o dLen dCap : Nat) (s : ByteArray) (cur : List Value) (t : TypeId) (k : Nat) (hk : Nat.min s.size dLen = k)
    (hu : P.underlying dT = some (.slice elem)) (hs : (P.info? elem).map (·.size) = some 1) (hg : w.heap[g]? = some (.cells cur.toArray t (0, 0)))
    (hfit : o + k ≤ cur.length) :
    (Builtin.copy_ #[dT, sT] ty #[.slice (some ⟨g, o, none⟩) dLen dCap, .string s]).run P w =
      .ok (goInt k) (w.setRow g (splice cur o (byteVals (s.data.toList.take k))).toArray) := by
  have h1 : s.size = s.data.toList.length := by simp
  have hk' : min s.size dLen = k := hk
  have hl : (byteVals (s.data.toList.take k)).length = k := by
    rw [byteVals, List.length_map, List.length_take]
    omega
  have hst := run_storeCells_at P g o t (byteVals (s.data.toList.take k)) 0 cur.toArray w hg (by rw [hl]; simpa using hfit) (by
    intro v hv
    obtain ⟨x, _, rfl⟩ := List.mem_map.1 hv
    rfl)
  simp only [Nat.add_zero] at hst
  cases hq : P.info? elem with
  | none => simp [hq] at hs
  | some i =>
    have htk : List.take k (List.map (fun b : UInt8 => Value.int IntKind.u8 (b.toNat : Int)) s.data.toList) = byteVals (s.data.toList.take k) := by
      rw [byteVals, ← List.map_take]
      rfl
    simp [Builtin.copy_, run_underlying hu, Builtin.lenOf, Builtin.firstCells, sizeOf, typeInfo, hq, hk]
    rw [htk, hst]
    simp [Result.andThen, splice]

theorem wpList_copy_str {w : World} {ops : Array Oper} {rest : List Oper} {o : Oper} {a : Act} {Q : Exit → Act → World → Prop} (hgd : o.guard = none) (d s : Operand) (dT sT : TypeId)
    (ho : o.op = .call { callee := .builtin .copy, args := #[d, s], argTypes := #[dT, sT] }) (elem : TypeId) (hu : P.underlying dT = some (.slice elem)) (hsz : (P.info? elem).map (·.size) = some 1)
    (g off dLen dCap : Nat) (str : ByteArray) (hd : a.eval d = .slice (some ⟨g, off, none⟩) dLen dCap) (hs : a.eval s = .string str)
    (cur : List Value) (t : TypeId) (k : Nat) (hk : Nat.min str.size dLen = k) (hg : Hid (w.heap[g]? = some (.cells cur.toArray t (0, 0))))
    (hfit : off + k ≤ cur.length)
    (h : ∀ w', Hid (w'.heap[g]? = some (.cells (splice cur off (byteVals (str.data.toList.take k))).toArray t (0, 0))) → Upd [g] w w' → w'.heap.size = w.heap.size → wpList P ops Q rest (a.put o.dst (goInt k)) w') :
    wpList P ops Q (o :: rest) a w := by
  refine wpList_plain hgd fun K hK => ?_
  have hrun := run_copy_str (P := P) w dT sT o.type elem g off dLen dCap str cur t k hk hu hsz hg.out hfit
  unfold Oper.wp
  simp [execOp, ho, resolve, invoke, builtin, hd, hs, hrun, Result.andThen]
  exact hK _ _ (h _ (show _ = _ from setRow_heap w g _ _ t _ hg.out)
    ⟨rfl, rfl, rfl, by simp [World.setRow], fun k hk hn => setRow_other w g k _ (by simpa using hn)⟩ (by simp [World.setRow]))

/-- A region that reads first and whose last operations are forced: the drawn world behind a name. -/
theorem region_tail {id : Nat} {Q : Exit → Act → World → Prop} {a : Act} {w : World} {l : List Oper} (n : Nat) (hm : P.follows .mixedOrders = true) (hB : Region.lexTailB .any l.toArray n = true)
    (h : ∀ w1, Hid (w1 = w.drew) → wpStill P l.toArray w1 (fun a' => wpList P l.toArray Q (l.drop n) a' w1) (l.take n) a) : (Code.region id l.toArray true).wp P Q a w :=
  wp_region_still_tail n hm hB (h w.drew rfl)

theorem drew_cell {w w1 : World} (h : Hid (w1 = w.drew)) {p : Addr} {v : Value} (hc : w.cell? p = some v) : w1.cell? p = some v := by
  rw [h.out]; exact hc
theorem drew_upd {w w1 : World} (h : Hid (w1 = w.drew)) (F : List Nat) : Upd F w w1 := by
  rw [h.out]; exact (Upd.refl _ _).drew
theorem drew_heap {w w1 : World} (h : Hid (w1 = w.drew)) : w1.heap = w.heap := by rw [h.out]; rfl
end
end Go.Proofs.Ytcihncgajkogkaa
