/- head: what its calls come to, reckoned. -/
import Derived.Test.YtcihncgajkogkaaLive
namespace Go.Proofs.Ytcihncgajkogkaa

def rep32 (b : UInt8) : ByteArray := ⟨(List.replicate 32 b).toArray⟩
theorem fill_a : txtOf false ⟨#[97]⟩ = rep32 97 := by
  unfold txtOf
  rw [ByteArray.toList_eq]
  decide +kernel
theorem fill_b : txtOf false ⟨#[98]⟩ = rep32 98 := by
  unfold txtOf
  rw [ByteArray.toList_eq]
  decide +kernel
theorem fill_0 : txtOf false ⟨#[0]⟩ = rep32 0 := by
  unfold txtOf
  rw [ByteArray.toList_eq]
  decide +kernel

def torn : ByteArray := ⟨#[98, 98] ++ (List.replicate 30 97).toArray⟩
def short : ByteArray := ⟨#[115, 104, 111, 114, 116]⟩
def hs1 : DS := ((DS.new 2).write 0 (rep32 97)).1
def hs2 : DS := hs1.sync.1
def hs3 : DS := (hs2.write 0 (rep32 98)).1
def hs4 : DS := hs3.fail 0 2
def hs4' : DS := hs4.sync.1
def hs5 : DS := hs4'.start
def hs6 : DS := (hs5.write 1 short).1
theorem e1 : ((DS.new 2).write 0 (rep32 97)).2 = 0 := by decide +kernel
theorem e2 : hs1.sync.2 = 0 := by decide +kernel
theorem e3 : (hs2.write 0 (rep32 98)).2 = 0 := by decide +kernel
theorem e4 : hs3.read 0 = (rep32 98, 0) := by decide +kernel
theorem e5 : hs4.sync.2 = 21 := by decide +kernel
theorem e6 : hs5.read 0 = (torn, 0) := by decide +kernel
theorem e7 : hs5.read 1 = (rep32 0, 0) := by decide +kernel
theorem e8 : hs5.read 2 = (ByteArray.empty, 1) := by decide +kernel
theorem e9 : (hs5.write 1 short).2 = 1 := by decide +kernel
theorem q1 : (DS.new 2).q.length < 1000000 := by decide +kernel
theorem q2 : hs1.q.length < 1000000 := by decide +kernel
theorem q3 : hs2.q.length < 1000000 := by decide +kernel
theorem q4 : hs3.q.length < 1000000 := by decide +kernel
theorem q5 : hs4.q.length < 1000000 := by decide +kernel
theorem q6 : hs5.q.length < 1000000 := by decide +kernel

def ks1 : DS := (DS.new 1).arm 1 1 2
def ks2 : DS := (ks1.write 0 (rep32 97)).1
def ks3 : DS := (ks2.write 0 (rep32 98)).1
def ks4 : DS := ks3.start
theorem k1 : (ks1.write 0 (rep32 97)).2 = 0 := by decide +kernel
theorem k2 : (ks2.write 0 (rep32 98)).2 = 21 := by decide +kernel
theorem k4 : ks4.read 0 = (torn, 0) := by decide +kernel
theorem kq1 : ks1.q.length < 1000000 := by decide +kernel
theorem kq2 : ks2.q.length < 1000000 := by decide +kernel
theorem kq4 : ks4.q.length < 1000000 := by decide +kernel

theorem torn_eq : (⟨#[98, 98]⟩ : ByteArray) ++ (rep32 97).extract 2 (rep32 97).size = torn := by decide +kernel
end Go.Proofs.Ytcihncgajkogkaa
