/- The laws of the checksum. -/
import Derived.Test.YtgmhbncbmpahjaaL8
import Derived.Test.YtgmhbncbmpahjaaL2
import Derived.Laws.Strings
set_option linter.all false
set_option maxRecDepth 100000
namespace Go.Proofs.Ytgmhbncbmpahjaa.L
open Go.Proofs.Ytgmhbncbmpahjaa.M Go.Proofs.Ytgmhbncbmpahjaa.F Go.Proofs

theorem toList_mk (l : List UInt8) : (ByteArray.toList ⟨l.toArray⟩) = l := by rw [Go.ByteArray.toList_eq]
theorem take_seal (l : List UInt8) : (sealB l).take ((sealB l).length - 4) = l := by
  rw [sealB_len, Nat.add_sub_cancel, sealB, List.take_left]
theorem crc_app (a b : List UInt8) : ~~~ (b.foldl ub (~~~ (crc a))) = crc (a ++ b) := by
  simp only [crc, BitVec.not_not, List.foldl_append]

end Go.Proofs.Ytgmhbncbmpahjaa.L
