/- The checksum: what it computes. -/
import Derived.Test.YtgmhbncbmpahjaaL1
set_option linter.all false
set_option maxRecDepth 100000
namespace Go.Proofs.Ytgmhbncbmpahjaa.L
open Go.Proofs.Ytgmhbncbmpahjaa.M Go.Proofs.Ytgmhbncbmpahjaa.F Go.Proofs

theorem m32 : (kb .u32) = 32 := rfl
theorem bvo (r : BitVec 32) : BitVec.ofInt 32 (r.toNat : Int) = r := by
  apply BitVec.eq_of_toNat_eq
  exact bv32 _ r.isLt
theorem wr (r : BitVec 32) : IntKind.u32.wrap (r.toNat : Int) = r.toNat := by rw [w32]; have := r.isLt; omega
theorem f_and (r : BitVec 32) : IntKind.u32.wrap ((BitVec.ofInt (kb .u32) (r.toNat : Int) &&& BitVec.ofInt (kb .u32) 1).toNat : Int) = ((r &&& 1#32).toNat : Int) := by
  rw [m32, bvo]; exact wr _
theorem f_xor (a b : BitVec 32) : IntKind.u32.wrap ((BitVec.ofInt (kb .u32) (a.toNat : Int) ^^^ BitVec.ofInt (kb .u32) (b.toNat : Int)).toNat : Int) = ((a ^^^ b).toNat : Int) := by
  rw [m32, bvo, bvo]; exact wr _
theorem f_not (r : BitVec 32) : IntKind.u32.wrap ((BitVec.ofInt (kb .u32) (if IntKind.u32.signed = true then -1 else IntKind.u32.max) ^^^ BitVec.ofInt (kb .u32) (r.toNat : Int)).toNat : Int) = ((~~~ r).toNat : Int) := by
  show IntKind.u32.wrap (((BitVec.ofInt 32 4294967295 ^^^ BitVec.ofInt 32 (r.toNat : Int)).toNat : Nat) : Int) = _
  rw [bvo, show BitVec.ofInt 32 4294967295 = BitVec.allOnes 32 from rfl, BitVec.allOnes_xor]; exact wr _
theorem f_shr (r : BitVec 32) : (r.toNat : Int).fdiv (2 ^ min (1 : Int).toNat (kb .u32)) = ((r >>> 1).toNat : Int) := by
  have : min (1 : Int).toNat (kb .u32) = 1 := by decide
  rw [this, Int.fdiv_eq_ediv_of_nonneg _ (by decide), BitVec.toNat_ushiftRight, Nat.shiftRight_eq_div_pow]; omega
theorem f_mul (q : BitVec 32) : IntKind.u32.wrap (3988292384 * (q.toNat : Int)) = ((3988292384#32 * q).toNat : Int) := by
  rw [w32, BitVec.toNat_mul]
  have : (3988292384#32).toNat = 3988292384 := rfl
  rw [this]; omega
theorem u8_32 (c : UInt8) : IntKind.u32.wrap (c.toNat : Int) = ((BitVec.ofNat 32 c.toNat).toNat : Int) := by
  rw [w32, BitVec.toNat_ofNat]; omega

/-- One bit. -/
def tb (r : BitVec 32) : BitVec 32 := (r >>> 1) ^^^ (3988292384#32 * (r &&& 1#32))
def tbs : Nat → BitVec 32 → BitVec 32
  | 0, r => r
  | n + 1, r => tbs n (tb r)
/-- One byte. -/
def ub (r : BitVec 32) (c : UInt8) : BitVec 32 := tbs 8 (r ^^^ BitVec.ofNat 32 c.toNat)
def crc (l : List UInt8) : BitVec 32 := ~~~ (l.foldl ub (~~~ 0#32))

theorem foldl_ub_succ (r : BitVec 32) (l : List UInt8) (k : Nat) (b : UInt8) (h : l[k]? = some b) : (l.take (k + 1)).foldl ub r = ub ((l.take k).foldl ub r) b := by
  rw [List.take_add_one, h]; simp

end Go.Proofs.Ytgmhbncbmpahjaa.L
