/- The checksum's reference, and what is sealed. -/
import Derived.Test.YtbmkioeeolbdnaaL6
set_option linter.all false
set_option maxRecDepth 100000
namespace Go.Proofs.Ytbmkioeeolbdnaa.L
open Go.Proofs.Ytbmkioeeolbdnaa.M Go.Proofs.Ytbmkioeeolbdnaa.F Go.Proofs

theorem both_v (r : BitVec 32) (x : UInt8) : IntKind.u8.wrap ((BitVec.ofInt (kb .u8) (IntKind.u8.wrap ((BitVec.ofInt (kb .u8) (IntKind.u8.wrap (r.toNat : Int)) ^^^ BitVec.ofInt (kb .u8) (x.toNat : Int)).toNat : Int)) &&& BitVec.ofInt (kb .u8) 1).toNat : Int) = ((r.toNat + x.toNat) % 2 : Nat) := by
  have hx := x.toNat_lt
  show IntKind.u8.wrap (((BitVec.ofInt 8 (IntKind.u8.wrap (((BitVec.ofInt 8 (IntKind.u8.wrap (r.toNat : Int)) ^^^ BitVec.ofInt 8 (x.toNat : Int)).toNat : Nat) : Int)) &&& BitVec.ofInt 8 1).toNat : Nat) : Int) = _
  have e1 : (BitVec.ofInt 8 (IntKind.u8.wrap (r.toNat : Int))).toNat = r.toNat % 256 := by rw [w8, BitVec.toNat_ofInt]; omega
  have e2 : (BitVec.ofInt 8 (x.toNat : Int)).toNat = x.toNat := by rw [BitVec.toNat_ofInt]; omega
  have e3 : ∀ m : BitVec 8, (BitVec.ofInt 8 (IntKind.u8.wrap ((m.toNat : Nat) : Int))).toNat = m.toNat := by
    intro m
    have := m.isLt
    rw [w8, BitVec.toNat_ofInt]; omega
  rw [BitVec.toNat_and, e3, BitVec.toNat_xor, e1, e2, show (BitVec.ofInt 8 1).toNat = 1 from rfl, Nat.and_one_is_mod, xor2, w8]
  omega
theorem half_v (r : BitVec 32) : IntKind.u32.wrap ((r.toNat : Int).tdiv 2) = ((r >>> 1).toNat : Int) := by
  have := r.isLt
  rw [w32, BitVec.toNat_ushiftRight, Nat.shiftRight_eq_div_pow, Int.tdiv_eq_ediv_of_nonneg (by omega)]; omega
theorem poly_v (r : BitVec 32) : IntKind.u32.wrap ((BitVec.ofInt (kb .u32) (r.toNat : Int) ^^^ BitVec.ofInt (kb .u32) 3988292384).toNat : Int) = ((r ^^^ 3988292384#32).toNat : Int) := f_xor r 3988292384#32
theorem not_v (r : BitVec 32) : IntKind.u32.wrap (4294967295 - (r.toNat : Int)) = ((~~~ r).toNat : Int) := by
  have := r.isLt
  rw [w32, BitVec.toNat_not]; omega

def be4 (v : BitVec 32) : List UInt8 := [UInt8.ofNat (v.toNat / 16777216 % 256), UInt8.ofNat (v.toNat / 65536 % 256), UInt8.ofNat (v.toNat / 256 % 256), UInt8.ofNat (v.toNat % 256)]
def sealB (l : List UInt8) : List UInt8 := l ++ be4 (crc l)
theorem sealB_len (l : List UInt8) : (sealB l).length = l.length + 4 := by simp [sealB, be4]
theorem b24 (v : BitVec 32) : IntKind.u8.wrap ((v.toNat : Int).fdiv (2 ^ min (24 : Int).toNat (kb .u32))) = ((UInt8.ofNat (v.toNat / 16777216 % 256)).toNat : Int) := by
  have : min (24 : Int).toNat (kb .u32) = 24 := by decide
  rw [this, Int.fdiv_eq_ediv_of_nonneg _ (by decide), w8, UInt8.toNat_ofNat']; omega
theorem b16 (v : BitVec 32) : IntKind.u8.wrap ((v.toNat : Int).fdiv (2 ^ min (16 : Int).toNat (kb .u32))) = ((UInt8.ofNat (v.toNat / 65536 % 256)).toNat : Int) := by
  have : min (16 : Int).toNat (kb .u32) = 16 := by decide
  rw [this, Int.fdiv_eq_ediv_of_nonneg _ (by decide), w8, UInt8.toNat_ofNat']; omega
theorem b8 (v : BitVec 32) : IntKind.u8.wrap ((v.toNat : Int).fdiv (2 ^ min (8 : Int).toNat (kb .u32))) = ((UInt8.ofNat (v.toNat / 256 % 256)).toNat : Int) := by
  have : min (8 : Int).toNat (kb .u32) = 8 := by decide
  rw [this, Int.fdiv_eq_ediv_of_nonneg _ (by decide), w8, UInt8.toNat_ofNat']; omega
theorem b0 (v : BitVec 32) : IntKind.u8.wrap (v.toNat : Int) = ((UInt8.ofNat (v.toNat % 256)).toNat : Int) := by
  rw [w8, UInt8.toNat_ofNat']; omega
theorem be4_enc (v : BitVec 32) (l : List UInt8) : l.map encB ++ [[AV.int .u8 ((UInt8.ofNat (v.toNat / 16777216 % 256)).toNat : Int)], [AV.int .u8 ((UInt8.ofNat (v.toNat / 65536 % 256)).toNat : Int)], [AV.int .u8 ((UInt8.ofNat (v.toNat / 256 % 256)).toNat : Int)], [AV.int .u8 ((UInt8.ofNat (v.toNat % 256)).toNat : Int)]] = (l ++ be4 v).map encB := by
  simp [be4, encB]

theorem clone_run {l : List UInt8} {h : AH} (hn : l.length < 140737488355328) : run T 9 [.sl .sh (l.map encB)] h = some (ow (l.map encB), h) := by
  rw [run_prim T_9]
  show (if szOK 1 (l.map encB) = true ∧ _ then _ else _) = _
  rw [if_pos ⟨szOK_enc, by rw [List.length_map]; omega, by rw [List.length_map]; omega⟩]
theorem clip_run {l : List UInt8} {h : AH} (hn : l.length < 140737488355328) : run T 8 [.sl .sh (l.map encB)] h = some (.sl .ex (l.map encB), h) := by
  have hs : sliceV (some 1) (.sl .sh (l.map encB)) (some none) (some (some (l.length : Int))) (some (some (l.length : Int))) = some (.sl .ex (l.map encB)) := by
    rw [slc_some (by decide) (by simp) (by simp) szOK_enc (by simp) (by simp), if_pos rfl, Int.toNat_natCast, List.take_of_length_le (by simp)]; rfl
  rw [run_code T_8]
  simp -implicitDefEqProofs (disch := (refine id_ok ?_; first | assumption | omega | (simp only [go_sem, List.size_toArray, List.length_map, List.length_append, List.length_take, List.length_drop, List.length_cons, List.length_nil, mrLL_app, keyD_i, keyD_s, keyD_b, Nat.reduceAdd, Nat.reduceEqDiff, Nat.reduceLeDiff] <;> omega) | with_unfolding_all rfl | decide)) only [go_sem, Nat.reduceAdd, Nat.reduceSub, Nat.reduceMul, Nat.reduceLeDiff, Nat.reduceEqDiff, Nat.reduceBEq, reduceIte, reduceCtorEq, c_slices_Clip_byte_byte, List.length_map, hs]
theorem seal_run {l : List UInt8} {h : AH} (hn : l.length < 140737488350000) : run T 5 [.sl .sh (l.map encB)] h = some (ow ((sealB l).map encB), h) := by
  have h1 := clone_run (l := l) (h := []) (by omega)
  have h2 := clip_run (l := l) (h := []) (by omega)
  have h3 := crc_run (l := l) (h := []) (by omega)
  rw [run_code T_5]
  simp -implicitDefEqProofs (disch := (refine id_ok ?_; first | assumption | omega | (simp only [go_sem, List.size_toArray, List.length_map, List.length_append, List.length_take, List.length_drop, List.length_cons, List.length_nil, mrLL_app, keyD_i, keyD_s, keyD_b, Nat.reduceAdd, Nat.reduceEqDiff, Nat.reduceLeDiff] <;> omega) | with_unfolding_all rfl | decide)) only [go_sem, Nat.reduceAdd, Nat.reduceSub, Nat.reduceMul, Nat.reduceLeDiff, Nat.reduceEqDiff, Nat.reduceBEq, reduceIte, reduceCtorEq, c_crc_Seal, h1, h2, h3, b24, b16, b8, b0, List.length_map, be4_enc]
  rfl
end Go.Proofs.Ytbmkioeeolbdnaa.L
