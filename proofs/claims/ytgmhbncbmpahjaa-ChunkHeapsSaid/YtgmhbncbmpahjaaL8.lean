/- What is sealed, and opened. -/
import Derived.Test.YtgmhbncbmpahjaaL7
set_option linter.all false
set_option maxRecDepth 100000
namespace Go.Proofs.Ytgmhbncbmpahjaa.L
open Go.Proofs.Ytgmhbncbmpahjaa.M Go.Proofs.Ytgmhbncbmpahjaa.F Go.Proofs

theorem be4_one (v : BitVec 32) : [[AV.int .u8 ((UInt8.ofNat (v.toNat / 16777216 % 256)).toNat : Int)], [AV.int .u8 ((UInt8.ofNat (v.toNat / 65536 % 256)).toNat : Int)], [AV.int .u8 ((UInt8.ofNat (v.toNat / 256 % 256)).toNat : Int)], [AV.int .u8 ((UInt8.ofNat (v.toNat % 256)).toNat : Int)]] = (be4 v).map encB := by
  simp [be4, encB]
theorem str_add {a b : List UInt8} (h : a.length + b.length ≤ 9223372036854775807) : binV .add (.str ⟨a.toArray⟩) (.str ⟨b.toArray⟩) = some (.str ⟨(a ++ b).toArray⟩) := by
  have e : (⟨a.toArray⟩ : ByteArray) ++ ⟨b.toArray⟩ = ⟨(a ++ b).toArray⟩ := by
    apply ByteArray.ext
    rw [ByteArray.data_append]
    simp
  rw [bins_add (by show ((a.toArray.size + b.toArray.size : Nat) : Int) ≤ _; simp; omega), e]
theorem sl_pre {m : Md} {l : List UInt8} {n : Nat} (h : n ≤ l.length) (hm : m ≠ .ex) : sliceV (some 1) (.sl m (l.map encB)) (some none) (some (some (n : Int))) (some none) = some (.sl .sh ((l.take n).map encB)) := by
  rw [slc_none (by decide) (by simp) (by simp; omega) szOK_enc, if_neg (fun x => hm x.1)]
  simp

def openP (b : List UInt8) : Prop := 4 ≤ b.length ∧ sealB (b.take (b.length - 4)) = b
end Go.Proofs.Ytgmhbncbmpahjaa.L
