/- The checksum's reference: the same. -/
import Derived.Test.YtbmkioeeolbdnaaL5
set_option linter.all false
set_option maxRecDepth 100000
namespace Go.Proofs.Ytbmkioeeolbdnaa.L
open Go.Proofs.Ytbmkioeeolbdnaa.M Go.Proofs.Ytbmkioeeolbdnaa.F Go.Proofs

theorem xor2 (a b : Nat) : (a ^^^ b) % 2 = (a + b) % 2 := by
  have h := Nat.xor_mod_two_pow (a := a) (b := b) (n := 1)
  rw [Nat.pow_one] at h
  rw [h]
  rcases Nat.mod_two_eq_zero_or_one a with ha | ha <;> rcases Nat.mod_two_eq_zero_or_one b with hb | hb <;> rw [ha, hb] <;> simp <;> omega

def bitsN : Nat → Nat → List UInt8
  | 0, _ => []
  | n + 1, c => UInt8.ofNat (c % 2) :: bitsN n (c / 2)
theorem bitsN_len : ∀ (n c : Nat), (bitsN n c).length = n
  | 0, c => rfl
  | n + 1, c => by simp [bitsN, bitsN_len n]
theorem bitsN_get : ∀ (n c k : Nat), k < n → (bitsN n c)[k]? = some (UInt8.ofNat (c / 2 ^ k % 2))
  | 0, c, k, h => by omega
  | n + 1, c, 0, h => by simp [bitsN]
  | n + 1, c, k + 1, h => by
    rw [bitsN, List.getElem?_cons_succ, bitsN_get n (c / 2) k (by omega), Nat.div_div_eq_div_mul, Nat.pow_succ, Nat.mul_comm 2]
def bitsB (c : UInt8) : List UInt8 := bitsN 8 c.toNat
def bitsL (l : List UInt8) : List UInt8 := (l.map bitsB).flatten
theorem bitsL_len : ∀ (l : List UInt8), (bitsL l).length = 8 * l.length
  | [] => rfl
  | c :: l => by
    have := bitsL_len l
    simp only [bitsL] at this
    simp only [bitsL, List.map_cons, List.flatten_cons, List.length_append, this, bitsB, bitsN_len, List.length_cons]; omega
theorem bitsL_take_succ (l : List UInt8) (k : Nat) (b : UInt8) (h : l[k]? = some b) : bitsL (l.take (k + 1)) = bitsL (l.take k) ++ bitsB b := by
  rw [List.take_add_one, h]; simp [bitsL]

/-- One bit, as the reference takes it. -/
def rb (r : BitVec 32) (x : UInt8) : BitVec 32 := if (r.toNat + x.toNat) % 2 = 1 then (r >>> 1) ^^^ 3988292384#32 else r >>> 1
theorem u8bit (c : Nat) : (UInt8.ofNat (c % 2)).toNat = c % 2 := by rw [UInt8.toNat_ofNat']; omega
theorem tb_xor (r : BitVec 32) (c : Nat) (hc : c < 4294967296) : tb (r ^^^ BitVec.ofNat 32 c) = rb r (UInt8.ofNat (c % 2)) ^^^ BitVec.ofNat 32 (c / 2) := by
  have h1 : (BitVec.ofNat 32 c) >>> 1 = BitVec.ofNat 32 (c / 2) := by
    apply BitVec.eq_of_toNat_eq
    rw [BitVec.toNat_ushiftRight, BitVec.toNat_ofNat, BitVec.toNat_ofNat, Nat.shiftRight_eq_div_pow]; omega
  have h2 : ((r ^^^ BitVec.ofNat 32 c) &&& 1#32).toNat = (r.toNat + c) % 2 := by
    rw [BitVec.toNat_and, BitVec.toNat_xor, BitVec.toNat_ofNat, BitVec.toNat_ofNat, Nat.mod_eq_of_lt hc, show 1 % 2 ^ 32 = 1 from rfl, Nat.and_one_is_mod, xor2]
  unfold tb rb
  rw [BitVec.ushiftRight_xor_distrib, h1, u8bit]
  have h3 : (r.toNat + c % 2) % 2 = (r.toNat + c) % 2 := by omega
  rw [h3]
  rcases Nat.mod_two_eq_zero_or_one (r.toNat + c) with hb | hb
  · have h4 : (r ^^^ BitVec.ofNat 32 c) &&& 1#32 = 0#32 := by apply BitVec.eq_of_toNat_eq; rw [h2, hb]; rfl
    rw [h4, hb, if_neg (by decide)]
    simp
  · have h4 : (r ^^^ BitVec.ofNat 32 c) &&& 1#32 = 1#32 := by apply BitVec.eq_of_toNat_eq; rw [h2, hb]; rfl
    rw [h4, hb, if_pos rfl, BitVec.mul_one, BitVec.xor_assoc, BitVec.xor_assoc, BitVec.xor_comm (BitVec.ofNat 32 (c / 2))]
theorem tbs_bits : ∀ (n c : Nat) (r : BitVec 32), c < 4294967296 → tbs n (r ^^^ BitVec.ofNat 32 c) = (bitsN n c).foldl rb r ^^^ BitVec.ofNat 32 (c / 2 ^ n)
  | 0, c, r, h => by simp [tbs, bitsN]
  | n + 1, c, r, h => by
    rw [tbs, tb_xor r c h, tbs_bits n (c / 2) _ (by omega), bitsN, List.foldl_cons, Nat.div_div_eq_div_mul, Nat.pow_succ, Nat.mul_comm 2]
theorem ub_bits (r : BitVec 32) (c : UInt8) : ub r c = (bitsB c).foldl rb r := by
  have hc := c.toNat_lt
  rw [ub, tbs_bits 8 c.toNat r (by omega), bitsB, show c.toNat / 2 ^ 8 = 0 by omega]
  simp
theorem fold_bits : ∀ (l : List UInt8) (r : BitVec 32), l.foldl ub r = (bitsL l).foldl rb r
  | [], r => rfl
  | c :: l, r => by
    rw [List.foldl_cons, fold_bits l, ub_bits, ← List.foldl_append]
    rfl

theorem bit_v (c : UInt8) (k : Nat) (hk : k < 8) : IntKind.u8.wrap ((BitVec.ofInt (kb .u8) ((c.toNat : Int).fdiv (2 ^ min (k : Int).toNat (kb .u8))) &&& BitVec.ofInt (kb .u8) 1).toNat : Int) = ((UInt8.ofNat (c.toNat / 2 ^ k % 2)).toNat : Int) := by
  have hc := c.toNat_lt
  have e1 : min (k : Int).toNat (kb .u8) = k := by
    have : (kb .u8) = 8 := rfl
    omega
  have e2 : (c.toNat : Int).fdiv (2 ^ k) = ((c.toNat / 2 ^ k : Nat) : Int) := by
    rw [Int.fdiv_eq_ediv_of_nonneg _ (Int.pow_nonneg (by decide))]
    simp
  have hlt : c.toNat / 2 ^ k < 256 := Nat.lt_of_le_of_lt (Nat.div_le_self _ _) hc
  rw [e1, e2]
  generalize c.toNat / 2 ^ k = m at *
  show IntKind.u8.wrap (((BitVec.ofInt 8 (m : Int) &&& BitVec.ofInt 8 1).toNat : Nat) : Int) = _
  have e3 : (BitVec.ofInt 8 (m : Int)).toNat = m := by rw [BitVec.toNat_ofInt]; omega
  rw [BitVec.toNat_and, e3, show (BitVec.ofInt 8 1).toNat = 1 from rfl, Nat.and_one_is_mod, u8bit, w8]
  omega

end Go.Proofs.Ytbmkioeeolbdnaa.L
