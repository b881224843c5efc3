/- The laws of the checksum. -/
import Derived.Test.YtbmkioeeolbdnaaL8
import Derived.Test.YtbmkioeeolbdnaaL2
import Derived.Laws.Strings
set_option linter.all false
set_option maxRecDepth 100000
namespace Go.Proofs.Ytbmkioeeolbdnaa.L
open Go.Proofs.Ytbmkioeeolbdnaa.M Go.Proofs.Ytbmkioeeolbdnaa.F Go.Proofs

theorem toList_mk (l : List UInt8) : (ByteArray.toList ⟨l.toArray⟩) = l := by rw [Go.ByteArray.toList_eq]
theorem take_seal (l : List UInt8) : (sealB l).take ((sealB l).length - 4) = l := by
  rw [sealB_len, Nat.add_sub_cancel, sealB, List.take_left]
theorem open_seal {l : List UInt8} {h : AH} (hn : l.length < 140737488340000) : run T 6 [.sl .sh ((sealB l).map encB)] h = some (.tup [ow (l.map encB), .bool true], h) := by
  have := open_yes (b := sealB l) (h := h) (by rw [sealB_len]; omega) ⟨by rw [sealB_len]; omega, by rw [take_seal]⟩
  rwa [take_seal] at this
theorem crc_app (a b : List UInt8) : ~~~ (b.foldl ub (~~~ (crc a))) = crc (a ++ b) := by
  simp only [crc, BitVec.not_not, List.foldl_append]

theorem first02 {h : AH} : run T 4 [] h = some (.bool true, h) := by
  have h1 : run T 5 [.sl .sh [[.int .u8 97], [.int .u8 98]]] [] = some (ow ((sealB [97, 98]).map encB), []) := seal_run (l := [97, 98]) (by decide)
  have h2 : run T 6 [.sl .sh ((sealB [97, 98]).map encB)] [] = some (.tup [ow [encB 97, encB 98], .bool true], []) := open_seal (l := [97, 98]) (by decide)
  have h3 : run T 7 [.sl .sh [[.int .u8 49], [.int .u8 50], [.int .u8 51], [.int .u8 52], [.int .u8 53], [.int .u8 54], [.int .u8 55], [.int .u8 56], [.int .u8 57]]] [] = some (.int .u32 3421780262, []) := by
    have := crc_run (l := [49, 50, 51, 52, 53, 54, 55, 56, 57]) (h := []) (by decide)
    rwa [show crc [49, 50, 51, 52, 53, 54, 55, 56, 57] = 3421780262#32 by decide +kernel] at this
  have h4 : bytesV (ow [encB 97, encB 98]) = some (.str ⟨#[97, 98]⟩) := ow_bytes (b := [97, 98])
  have h5 : ((ByteArray.toList ⟨#[97, 98]⟩) == (ByteArray.toList ⟨#[97, 98]⟩)) = true := beq_self_eq_true _
  rw [run_code T_4]
  simp -implicitDefEqProofs (disch := (refine id_ok ?_; first | assumption | omega | (simp only [go_sem, List.size_toArray, List.length_map, List.length_append, List.length_take, List.length_drop, List.length_cons, List.length_nil, mrLL_app, keyD_i, keyD_s, keyD_b, Nat.reduceAdd, Nat.reduceEqDiff, Nat.reduceLeDiff] <;> omega) | with_unfolding_all rfl | decide)) only [go_sem, Nat.reduceAdd, Nat.reduceSub, Nat.reduceMul, Nat.reduceLeDiff, Nat.reduceEqDiff, Nat.reduceBEq, reduceIte, reduceCtorEq, c_regencylaw02_first, h1, h2, h3, h4, h5]

end Go.Proofs.Ytbmkioeeolbdnaa.L
