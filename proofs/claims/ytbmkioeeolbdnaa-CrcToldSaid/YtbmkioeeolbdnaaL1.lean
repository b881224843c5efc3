/- The digest: what it computes. -/
import Derived.Test.YtbmkioeeolbdnaaF0
set_option linter.all false
set_option maxRecDepth 100000
namespace Go.Proofs.Ytbmkioeeolbdnaa.L
open Go.Proofs.Ytbmkioeeolbdnaa.M Go.Proofs.Ytbmkioeeolbdnaa.F Go.Proofs

theorem w32 (n : Int) : IntKind.u32.wrap n = n % 4294967296 := by simp [IntKind.wrap, IntKind.bits, IntKind.signed]
theorem w8 (n : Int) : IntKind.u8.wrap n = n % 256 := by simp [IntKind.wrap, IntKind.bits, IntKind.signed]
theorem wu64 (n : Int) : IntKind.u64.wrap n = n % 18446744073709551616 := by simp [IntKind.wrap, IntKind.bits, IntKind.signed]
theorem w64 {n : Int} (h1 : -9223372036854775808 ≤ n) (h2 : n ≤ 9223372036854775807) : IntKind.i64.wrap n = n := by
  simp only [IntKind.wrap, IntKind.bits, IntKind.signed]; simp; split <;> omega
theorem bv32 (n : Nat) (h : n < 4294967296) : (BitVec.ofInt 32 (n : Int)).toNat = n := by
  rw [BitVec.toNat_ofInt]; omega
theorem bv64 (n : Nat) (h : n < 18446744073709551616) : (BitVec.ofInt 64 (n : Int)).toNat = n := by
  rw [BitVec.toNat_ofInt]; omega

def mix (s : Nat × Nat) (c : UInt8) : Nat × Nat :=
  let a := (s.1 * 16777619 + c.toNat) % 4294967296
  let t := (s.2 + a) % 4294967296
  (a, t * 128 % 4294967296 + t / 33554432)
def okP (s : Nat × Nat) : Prop := s.1 < 4294967296 ∧ s.2 < 4294967296
theorem mix_ok (s : Nat × Nat) (c : UInt8) : okP (mix s c) := by
  constructor
  · simp only [mix]; omega
  · simp only [mix]; omega
def pairC (s : Nat × Nat) : List AV := [.int .u32 s.1, .int .u32 s.2]

theorem rot_or (x : Nat) (h : x < 4294967296) : (x * 128 % 4294967296) ||| (x / 33554432) = x * 128 % 4294967296 + x / 33554432 := by
  have e : x * 128 % 4294967296 = (x % 33554432) <<< 7 := by rw [Nat.shiftLeft_eq]; omega
  rw [e, Nat.shiftLeft_add_eq_or_of_lt (by omega)]

theorem e7 : IntKind.u64.wrap ((BitVec.ofInt (kb .u64) (IntKind.u64.wrap 7) &&& BitVec.ofInt (kb .u64) 31).toNat : Int) = 7 := by decide
theorem e25 : IntKind.u64.wrap (32 - 7) = 25 := by decide
def bytes8 (n : Int) : List UInt8 := (List.range 8).map fun i => UInt8.ofNat ((n / (2 ^ (8 * i) : Nat)) % 256).toNat
theorem bytes8_len (n : Int) : (bytes8 n).length = 8 := by simp [bytes8]
attribute [go_sem] bytes8_len

theorem set_self {α : Type} {l : List α} {i : Nat} {a : α} (h : l[i]? = some a) : l.set i a = l := by
  apply List.ext_getElem?
  intro k
  by_cases hk : k = i
  · subst hk; rw [List.getElem?_set_self (List.getElem?_eq_some_iff.1 h).1, h]
  · rw [List.getElem?_set_ne (by omega)]
theorem foldl_take_succ {β : Type} (f : β → UInt8 → β) (s : β) (l : List UInt8) (k : Nat) (b : UInt8) (h : l[k]? = some b) : (l.take (k + 1)).foldl f s = f ((l.take k).foldl f s) b := by
  rw [List.take_add_one, h]; simp
theorem bytes8_get (n : Int) (k : Nat) (hk : k < 8) : (bytes8 n)[k]? = some (UInt8.ofNat ((n / (2 ^ (8 * k) : Nat)) % 256).toNat) := by
  simp [bytes8, hk]
theorem byte_at (n : Int) (k : Nat) (hk : k < 8) : IntKind.u8.wrap (n.fdiv (2 ^ min (IntKind.i64.wrap (8 * (k : Int))).toNat (kb .i64))) = ((UInt8.ofNat ((n / (2 ^ (8 * k) : Nat)) % 256).toNat).toNat : Int) := by
  rw [w64 (by omega) (by omega), w8]
  have e1 : min (8 * (k : Int)).toNat (kb .i64) = 8 * k := by
    have : (kb .i64) = 64 := rfl
    omega
  have hp : (0 : Int) ≤ 2 ^ (8 * k) := Int.pow_nonneg (by decide)
  rw [e1, Int.fdiv_eq_ediv_of_nonneg _ hp, UInt8.toNat_ofNat']
  have e2 : ((2 ^ (8 * k) : Nat) : Int) = 2 ^ (8 * k) := by simp
  rw [e2]
  generalize n / 2 ^ (8 * k) = m
  omega
theorem foldl_ok (l : List UInt8) {s : Nat × Nat} (h : okP s) : okP (l.foldl mix s) := by
  induction l generalizing s with
  | nil => exact h
  | cons c l ih => exact ih (mix_ok s c)


def num (s : Nat × Nat) : Nat := (s.1 * 4294967296 + s.2) % 4611686018427387904
theorem num_bits (a b : Nat) (ha : a < 4294967296) (hb : b < 4294967296) :
    IntKind.i64.wrap (IntKind.u64.wrap ((BitVec.ofInt (kb .u64) (IntKind.u64.wrap ((BitVec.ofInt (kb .u64) (IntKind.u64.wrap (IntKind.u64.wrap (a : Int) * 2 ^ min (32 : Int).toNat (kb .u64))) ||| BitVec.ofInt (kb .u64) (IntKind.u64.wrap (b : Int))).toNat : Int)) &&& BitVec.ofInt (kb .u64) 4611686018427387903).toNat : Int)) = (num (a, b) : Int) := by
  have e0 : min (32 : Int).toNat (kb .u64) = 32 := by decide
  have e1 : IntKind.u64.wrap (IntKind.u64.wrap (a : Int) * 2 ^ 32) = ((a * 4294967296 : Nat) : Int) := by
    rw [wu64, wu64]; omega
  have e2 : IntKind.u64.wrap (b : Int) = ((b : Nat) : Int) := by rw [wu64]; omega
  have hbits : (kb .u64) = 64 := rfl
  rw [e0, e1, e2, hbits, BitVec.toNat_or, bv64 _ (by omega), bv64 _ (by omega)]
  have e3 : a * 4294967296 ||| b = a * 4294967296 + b := by
    have : a * 4294967296 = a <<< 32 := by rw [Nat.shiftLeft_eq]
    rw [this, Nat.shiftLeft_add_eq_or_of_lt (by omega)]
  rw [e3]
  have e4 : IntKind.u64.wrap ((a * 4294967296 + b : Nat) : Int) = ((a * 4294967296 + b : Nat) : Int) := by rw [wu64]; omega
  have e5 : BitVec.ofInt 64 4611686018427387903 = BitVec.ofInt 64 ((4611686018427387903 : Nat) : Int) := rfl
  rw [e4, BitVec.toNat_and, e5, bv64 _ (by omega), bv64 _ (by omega)]
  have e6 : (a * 4294967296 + b) &&& 4611686018427387903 = (a * 4294967296 + b) % 4611686018427387904 := Nat.and_two_pow_sub_one_eq_mod _ 62
  rw [e6]
  have e7 : IntKind.u64.wrap (((a * 4294967296 + b) % 4611686018427387904 : Nat) : Int) = (((a * 4294967296 + b) % 4611686018427387904 : Nat) : Int) := by rw [wu64]; omega
  rw [e7, w64 (by omega) (by omega)]
  rfl


def dig (l : List UInt8) : Nat := num (l.foldl mix (1, 40389))
def ofB (l : List UInt8) : Nat := dig (l ++ bytes8 l.length)
def chB (n : Int) (l : List UInt8) : Nat := dig (bytes8 n ++ l ++ bytes8 ((8 + l.length : Nat) : Int))
def ptB (l : List (List UInt8)) : Nat := dig ((l.map fun b => bytes8 (ofB b)).flatten ++ bytes8 ((8 * l.length : Nat) : Int))
theorem ok0 : okP (1, 40389) := by constructor <;> decide
theorem num_le (s : Nat × Nat) : num s < 4611686018427387904 := Nat.mod_lt _ (by decide)

theorem get_enc {l : List UInt8} {k : Nat} {c : UInt8} (hc : l[k]? = some c) : (l.map encB)[(k : Int).toNat]? = some (encB c) := by
  rw [Int.toNat_natCast, List.getElem?_map, hc]; rfl

end Go.Proofs.Ytbmkioeeolbdnaa.L
