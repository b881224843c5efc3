/- The digest: what it computes. -/
import Derived.Test.YtgmhbncbmpahjaaF0
set_option linter.all false
set_option maxRecDepth 100000
namespace Go.Proofs.Ytgmhbncbmpahjaa.L
open Go.Proofs.Ytgmhbncbmpahjaa.M Go.Proofs.Ytgmhbncbmpahjaa.F Go.Proofs

theorem w32 (n : Int) : IntKind.u32.wrap n = n % 4294967296 := by simp [IntKind.wrap, IntKind.bits, IntKind.signed]
theorem w8 (n : Int) : IntKind.u8.wrap n = n % 256 := by simp [IntKind.wrap, IntKind.bits, IntKind.signed]
theorem wu64 (n : Int) : IntKind.u64.wrap n = n % 18446744073709551616 := by simp [IntKind.wrap, IntKind.bits, IntKind.signed]
theorem w64 {n : Int} (h1 : -9223372036854775808 ≤ n) (h2 : n ≤ 9223372036854775807) : IntKind.i64.wrap n = n := by
  simp only [IntKind.wrap, IntKind.bits, IntKind.signed]; simp; split <;> omega
theorem bv32 (n : Nat) (h : n < 4294967296) : (BitVec.ofInt 32 (n : Int)).toNat = n := by
  rw [BitVec.toNat_ofInt]; omega
theorem bv64 (n : Nat) (h : n < 18446744073709551616) : (BitVec.ofInt 64 (n : Int)).toNat = n := by
  rw [BitVec.toNat_ofInt]; omega

def mix (s : Nat × Nat) (c : UInt8) : Nat × Nat :=
  let a := (s.1 * 16777619 + c.toNat) % 4294967296
  let t := (s.2 + a) % 4294967296
  (a, t * 128 % 4294967296 + t / 33554432)
def okP (s : Nat × Nat) : Prop := s.1 < 4294967296 ∧ s.2 < 4294967296
theorem mix_ok (s : Nat × Nat) (c : UInt8) : okP (mix s c) := by
  constructor
  · simp only [mix]; omega
  · simp only [mix]; omega
def pairC (s : Nat × Nat) : List AV := [.int .u32 s.1, .int .u32 s.2]

theorem rot_or (x : Nat) (h : x < 4294967296) : (x * 128 % 4294967296) ||| (x / 33554432) = x * 128 % 4294967296 + x / 33554432 := by
  have e : x * 128 % 4294967296 = (x % 33554432) <<< 7 := by rw [Nat.shiftLeft_eq]; omega
  rw [e, Nat.shiftLeft_add_eq_or_of_lt (by omega)]

theorem e7 : IntKind.u64.wrap ((BitVec.ofInt (kb .u64) (IntKind.u64.wrap 7) &&& BitVec.ofInt (kb .u64) 31).toNat : Int) = 7 := by decide
theorem e25 : IntKind.u64.wrap (32 - 7) = 25 := by decide
theorem rot_run {x : Nat} (hx : x < 4294967296) {h : AH} : run T 31 [.int .u32 x, .int .i64 7] h = some (.int .u32 ((x * 128 % 4294967296 + x / 33554432 : Nat) : Int), h) := by
  rw [run_code T_31]
  simp -implicitDefEqProofs (disch := (refine id_ok ?_; first | assumption | omega | (simp only [go_sem, List.size_toArray, List.length_map, List.length_append, List.length_take, List.length_drop, List.length_cons, List.length_nil, mrLL_app, keyD_i, keyD_s, keyD_b, Nat.reduceAdd, Nat.reduceEqDiff, Nat.reduceLeDiff] <;> omega) | with_unfolding_all rfl | decide)) only [go_sem, Nat.reduceAdd, Nat.reduceSub, Nat.reduceMul, Nat.reduceLeDiff, Nat.reduceEqDiff, Nat.reduceBEq, reduceIte, reduceCtorEq, c_math_bits_RotateLeft32, e7, e25]
  have e3 : (x : Int) * 2 ^ min (7 : Int).toNat (kb .u32) = ((x * 128 : Nat) : Int) := by
    have : min (7 : Int).toNat (kb .u32) = 7 := by decide
    rw [this]; omega
  have e4 : (x : Int).fdiv (2 ^ min (25 : Int).toNat (kb .u32)) = ((x / 33554432 : Nat) : Int) := by
    have : min (25 : Int).toNat (kb .u32) = 25 := by decide
    rw [this, Int.fdiv_eq_ediv_of_nonneg _ (by decide)]; omega
  rw [e3, e4, w32, w32]
  have e5 : ((x * 128 : Nat) : Int) % 4294967296 = ((x * 128 % 4294967296 : Nat) : Int) := by omega
  rw [e5, BitVec.toNat_or]
  have hb : (kb .u32) = 32 := rfl
  rw [hb, bv32 _ (by omega), bv32 _ (by omega), rot_or x hx]
  omega

theorem take_run {id : Nat} {s : Nat × Nat} {c : UInt8} {h : AH} (hb : h[id]? = some (.cells (pairC s))) (hs : okP s) :
    run T 28 [.box id 0, .int .u8 c.toNat] h = some (.tup [], h.set id (.cells (pairC (mix s c)))) := by
  have hl : id < h.length := (List.getElem?_eq_some_iff.1 hb).1
  have hc := c.toNat_lt
  obtain ⟨a, b⟩ := s
  simp only [pairC] at hb
  have e1 : IntKind.u32.wrap (IntKind.u32.wrap ((a : Int) * 16777619) + IntKind.u32.wrap (c.toNat : Int)) = ((mix (a, b) c).1 : Int) := by
    simp only [w32, mix]; omega
  have e2 : IntKind.u32.wrap ((b : Int) + ((mix (a, b) c).1 : Int)) = (((b + (mix (a, b) c).1) % 4294967296 : Nat) : Int) := by
    rw [w32]; omega
  rw [run_code T_28]
  simp -implicitDefEqProofs (disch := (refine id_ok ?_; first | assumption | omega | (simp only [go_sem, List.size_toArray, List.length_map, List.length_append, List.length_take, List.length_drop, List.length_cons, List.length_nil, mrLL_app, keyD_i, keyD_s, keyD_b, Nat.reduceAdd, Nat.reduceEqDiff, Nat.reduceLeDiff] <;> omega) | with_unfolding_all rfl | decide)) only [go_sem, Nat.reduceAdd, Nat.reduceSub, Nat.reduceMul, Nat.reduceLeDiff, Nat.reduceEqDiff, Nat.reduceBEq, reduceIte, reduceCtorEq, c_digest_pair_take, hb, e1, e2, rot_run (show (b + (mix (a, b) c).1) % 4294967296 < 4294967296 by omega)]
  rfl
def bytes8 (n : Int) : List UInt8 := (List.range 8).map fun i => UInt8.ofNat ((n / (2 ^ (8 * i) : Nat)) % 256).toNat
theorem bytes8_len (n : Int) : (bytes8 n).length = 8 := by simp [bytes8]
attribute [go_sem] bytes8_len

theorem set_self {α : Type} {l : List α} {i : Nat} {a : α} (h : l[i]? = some a) : l.set i a = l := by
  apply List.ext_getElem?
  intro k
  by_cases hk : k = i
  · subst hk; rw [List.getElem?_set_self (List.getElem?_eq_some_iff.1 h).1, h]
  · rw [List.getElem?_set_ne (by omega)]
theorem foldl_take_succ {β : Type} (f : β → UInt8 → β) (s : β) (l : List UInt8) (k : Nat) (b : UInt8) (h : l[k]? = some b) : (l.take (k + 1)).foldl f s = f ((l.take k).foldl f s) b := by
  rw [List.take_add_one, h]; simp
theorem bytes8_get (n : Int) (k : Nat) (hk : k < 8) : (bytes8 n)[k]? = some (UInt8.ofNat ((n / (2 ^ (8 * k) : Nat)) % 256).toNat) := by
  simp [bytes8, hk]
theorem byte_at (n : Int) (k : Nat) (hk : k < 8) : IntKind.u8.wrap (n.fdiv (2 ^ min (IntKind.i64.wrap (8 * (k : Int))).toNat (kb .i64))) = ((UInt8.ofNat ((n / (2 ^ (8 * k) : Nat)) % 256).toNat).toNat : Int) := by
  rw [w64 (by omega) (by omega), w8]
  have e1 : min (8 * (k : Int)).toNat (kb .i64) = 8 * k := by
    have : (kb .i64) = 64 := rfl
    omega
  have hp : (0 : Int) ≤ 2 ^ (8 * k) := Int.pow_nonneg (by decide)
  rw [e1, Int.fdiv_eq_ediv_of_nonneg _ hp, UInt8.toNat_ofNat']
  have e2 : ((2 ^ (8 * k) : Nat) : Int) = 2 ^ (8 * k) := by simp
  rw [e2]
  generalize n / 2 ^ (8 * k) = m
  omega
theorem foldl_ok (l : List UInt8) {s : Nat × Nat} (h : okP s) : okP (l.foldl mix s) := by
  induction l generalizing s with
  | nil => exact h
  | cons c l ih => exact ih (mix_ok s c)


theorem number_loop {id : Nat} {s : Nat × Nat} {n : Int} {h : AH} (hl : id < h.length) (hs : okP s) : ∀ (d k : Nat), d + k = 8 →
    den T (.loop l_digest_pair_number_0) (s_digest_pair_number_0 (.box id 0) (.int .i64 n) (.int .i64 k)) (h.set id (.cells (pairC (((bytes8 n).take k).foldl mix s)))) =
      some (.exit 0, x_digest_pair_number_0, h.set id (.cells (pairC ((bytes8 n).foldl mix s)))) := by
  intro d
  induction d with
  | zero =>
    intro k hk
    have : k = 8 := by omega
    subst this
    rw [lp_round, List.take_of_length_le (by rw [bytes8_len]; exact Nat.le_refl _)]
    simp -implicitDefEqProofs (disch := (refine id_ok ?_; first | assumption | omega | (simp only [go_sem, List.size_toArray, List.length_map, List.length_append, List.length_take, List.length_drop, List.length_cons, List.length_nil, mrLL_app, keyD_i, keyD_s, keyD_b, Nat.reduceAdd, Nat.reduceEqDiff, Nat.reduceLeDiff] <;> omega) | with_unfolding_all rfl | decide)) only [go_sem, Nat.reduceAdd, Nat.reduceSub, Nat.reduceMul, Nat.reduceLeDiff, Nat.reduceEqDiff, Nat.reduceBEq, reduceIte, reduceCtorEq, show decide (((8 : Nat) : Int) < 8) = false from rfl]
  | succ d ih =>
    intro k hk
    have hlt : k < 8 := by omega
    have hd : decide ((k : Int) < 8) = true := by simp; omega
    have hm : IntKind.i64.wrap (8 * (k : Int)) = ((8 * k : Nat) : Int) := by rw [w64 (by omega) (by omega)]; omega
    have hb := byte_at n k hlt
    rw [hm] at hb
    have hn : IntKind.i64.wrap ((k : Int) + 1) = ((k + 1 : Nat) : Int) := by rw [w64 (by omega) (by omega)]; rfl
    rw [lp_round]
    simp -implicitDefEqProofs (disch := (refine id_ok ?_; first | assumption | omega | (simp only [go_sem, List.size_toArray, List.length_map, List.length_append, List.length_take, List.length_drop, List.length_cons, List.length_nil, mrLL_app, keyD_i, keyD_s, keyD_b, Nat.reduceAdd, Nat.reduceEqDiff, Nat.reduceLeDiff] <;> omega) | with_unfolding_all rfl | decide)) only [go_sem, Nat.reduceAdd, Nat.reduceSub, Nat.reduceMul, Nat.reduceLeDiff, Nat.reduceEqDiff, Nat.reduceBEq, reduceIte, reduceCtorEq, hd, hm, hb, hn]
    rw [take_run (hp_get_set hl) (foldl_ok _ hs), hp_set_set, ← foldl_take_succ mix s _ _ _ (bytes8_get n k hlt)]
    simp -implicitDefEqProofs (disch := (refine id_ok ?_; first | assumption | omega | (simp only [go_sem, List.size_toArray, List.length_map, List.length_append, List.length_take, List.length_drop, List.length_cons, List.length_nil, mrLL_app, keyD_i, keyD_s, keyD_b, Nat.reduceAdd, Nat.reduceEqDiff, Nat.reduceLeDiff] <;> omega) | with_unfolding_all rfl | decide)) only [go_sem, Nat.reduceAdd, Nat.reduceSub, Nat.reduceMul, Nat.reduceLeDiff, Nat.reduceEqDiff, Nat.reduceBEq, reduceIte, reduceCtorEq, hn]
    exact ih (k + 1) (by omega)

theorem number_run {id : Nat} {s : Nat × Nat} {n : Int} {h : AH} (hb : h[id]? = some (.cells (pairC s))) (hs : okP s) :
    run T 32 [.box id 0, .int .i64 n] h = some (.tup [], h.set id (.cells (pairC ((bytes8 n).foldl mix s)))) := by
  have hl : id < h.length := (List.getElem?_eq_some_iff.1 hb).1
  have hq := number_loop (n := n) hl hs 8 0 rfl
  rw [List.take_zero, List.foldl_nil, set_self hb] at hq
  rw [run_code T_32]
  simp -implicitDefEqProofs (disch := (refine id_ok ?_; first | assumption | omega | (simp only [go_sem, List.size_toArray, List.length_map, List.length_append, List.length_take, List.length_drop, List.length_cons, List.length_nil, mrLL_app, keyD_i, keyD_s, keyD_b, Nat.reduceAdd, Nat.reduceEqDiff, Nat.reduceLeDiff] <;> omega) | with_unfolding_all rfl | decide)) only [go_sem, Nat.reduceAdd, Nat.reduceSub, Nat.reduceMul, Nat.reduceLeDiff, Nat.reduceEqDiff, Nat.reduceBEq, reduceIte, reduceCtorEq, c_digest_pair_number]
  rw [show (0 : Int) = ((0 : Nat) : Int) from rfl, hq]
  simp -implicitDefEqProofs (disch := (refine id_ok ?_; first | assumption | omega | (simp only [go_sem, List.size_toArray, List.length_map, List.length_append, List.length_take, List.length_drop, List.length_cons, List.length_nil, mrLL_app, keyD_i, keyD_s, keyD_b, Nat.reduceAdd, Nat.reduceEqDiff, Nat.reduceLeDiff] <;> omega) | with_unfolding_all rfl | decide)) only [go_sem, Nat.reduceAdd, Nat.reduceSub, Nat.reduceMul, Nat.reduceLeDiff, Nat.reduceEqDiff, Nat.reduceBEq, reduceIte, reduceCtorEq]
def num (s : Nat × Nat) : Nat := (s.1 * 4294967296 + s.2) % 4611686018427387904
theorem num_bits (a b : Nat) (ha : a < 4294967296) (hb : b < 4294967296) :
    IntKind.i64.wrap (IntKind.u64.wrap ((BitVec.ofInt (kb .u64) (IntKind.u64.wrap ((BitVec.ofInt (kb .u64) (IntKind.u64.wrap (IntKind.u64.wrap (a : Int) * 2 ^ min (32 : Int).toNat (kb .u64))) ||| BitVec.ofInt (kb .u64) (IntKind.u64.wrap (b : Int))).toNat : Int)) &&& BitVec.ofInt (kb .u64) 4611686018427387903).toNat : Int)) = (num (a, b) : Int) := by
  have e0 : min (32 : Int).toNat (kb .u64) = 32 := by decide
  have e1 : IntKind.u64.wrap (IntKind.u64.wrap (a : Int) * 2 ^ 32) = ((a * 4294967296 : Nat) : Int) := by
    rw [wu64, wu64]; omega
  have e2 : IntKind.u64.wrap (b : Int) = ((b : Nat) : Int) := by rw [wu64]; omega
  have hbits : (kb .u64) = 64 := rfl
  rw [e0, e1, e2, hbits, BitVec.toNat_or, bv64 _ (by omega), bv64 _ (by omega)]
  have e3 : a * 4294967296 ||| b = a * 4294967296 + b := by
    have : a * 4294967296 = a <<< 32 := by rw [Nat.shiftLeft_eq]
    rw [this, Nat.shiftLeft_add_eq_or_of_lt (by omega)]
  rw [e3]
  have e4 : IntKind.u64.wrap ((a * 4294967296 + b : Nat) : Int) = ((a * 4294967296 + b : Nat) : Int) := by rw [wu64]; omega
  have e5 : BitVec.ofInt 64 4611686018427387903 = BitVec.ofInt 64 ((4611686018427387903 : Nat) : Int) := rfl
  rw [e4, BitVec.toNat_and, e5, bv64 _ (by omega), bv64 _ (by omega)]
  have e6 : (a * 4294967296 + b) &&& 4611686018427387903 = (a * 4294967296 + b) % 4611686018427387904 := Nat.and_two_pow_sub_one_eq_mod _ 62
  rw [e6]
  have e7 : IntKind.u64.wrap (((a * 4294967296 + b) % 4611686018427387904 : Nat) : Int) = (((a * 4294967296 + b) % 4611686018427387904 : Nat) : Int) := by rw [wu64]; omega
  rw [e7, w64 (by omega) (by omega)]
  rfl


theorem end_run {id : Nat} {s : Nat × Nat} {n : Int} {h : AH} (hb : h[id]? = some (.cells (pairC s))) (hs : okP s) :
    run T 29 [.box id 0, .int .i64 n] h = some (.int .i64 (num ((bytes8 n).foldl mix s)), h.set id (.cells (pairC ((bytes8 n).foldl mix s)))) := by
  have hl : id < h.length := (List.getElem?_eq_some_iff.1 hb).1
  have ho := foldl_ok (bytes8 n) hs
  rw [run_code T_29]
  simp -implicitDefEqProofs (disch := (refine id_ok ?_; first | assumption | omega | (simp only [go_sem, List.size_toArray, List.length_map, List.length_append, List.length_take, List.length_drop, List.length_cons, List.length_nil, mrLL_app, keyD_i, keyD_s, keyD_b, Nat.reduceAdd, Nat.reduceEqDiff, Nat.reduceLeDiff] <;> omega) | with_unfolding_all rfl | decide)) only [go_sem, Nat.reduceAdd, Nat.reduceSub, Nat.reduceMul, Nat.reduceLeDiff, Nat.reduceEqDiff, Nat.reduceBEq, reduceIte, reduceCtorEq, c_digest_pair_end, number_run hb hs]
  generalize (bytes8 n).foldl mix s = q at *
  obtain ⟨a, b⟩ := q
  simp -implicitDefEqProofs (disch := (refine id_ok ?_; first | assumption | omega | (simp only [go_sem, List.size_toArray, List.length_map, List.length_append, List.length_take, List.length_drop, List.length_cons, List.length_nil, mrLL_app, keyD_i, keyD_s, keyD_b, Nat.reduceAdd, Nat.reduceEqDiff, Nat.reduceLeDiff] <;> omega) | with_unfolding_all rfl | decide)) only [go_sem, Nat.reduceAdd, Nat.reduceSub, Nat.reduceMul, Nat.reduceLeDiff, Nat.reduceEqDiff, Nat.reduceBEq, reduceIte, reduceCtorEq, pairC, num_bits a b ho.1 ho.2]


def dig (l : List UInt8) : Nat := num (l.foldl mix (1, 40389))
def ofB (l : List UInt8) : Nat := dig (l ++ bytes8 l.length)
def chB (n : Int) (l : List UInt8) : Nat := dig (bytes8 n ++ l ++ bytes8 ((8 + l.length : Nat) : Int))
def ptB (l : List (List UInt8)) : Nat := dig ((l.map fun b => bytes8 (ofB b)).flatten ++ bytes8 ((8 * l.length : Nat) : Int))
theorem ok0 : okP (1, 40389) := by constructor <;> decide
theorem num_le (s : Nat × Nat) : num s < 4611686018427387904 := Nat.mod_lt _ (by decide)

theorem get_enc {l : List UInt8} {k : Nat} {c : UInt8} (hc : l[k]? = some c) : (l.map encB)[(k : Int).toNat]? = some (encB c) := by
  rw [Int.toNat_natCast, List.getElem?_map, hc]; rfl

theorem of_loop {l : List UInt8} {v0 : AV} {s : Nat × Nat} {h : AH} (hs : okP s) (hn : l.length < 140737488355328) : ∀ (d k : Nat), d + k = l.length →
    den T (.loop l_digest_Of_0) (s_digest_Of_0 v0 (.box h.length 0) (.sl .sh (l.map encB)) (.int .i64 l.length) (.int .i64 k)) (h ++ [.cells (pairC ((l.take k).foldl mix s))]) =
      some (.exit 0, x_digest_Of_0 v0 (.box h.length 0), h ++ [.cells (pairC (l.foldl mix s))]) := by
  intro d
  induction d with
  | zero =>
    intro k hk
    have : k = l.length := by omega
    subst this
    rw [lp_round, List.take_length]
    simp -implicitDefEqProofs (disch := (refine id_ok ?_; first | assumption | omega | (simp only [go_sem, List.size_toArray, List.length_map, List.length_append, List.length_take, List.length_drop, List.length_cons, List.length_nil, mrLL_app, keyD_i, keyD_s, keyD_b, Nat.reduceAdd, Nat.reduceEqDiff, Nat.reduceLeDiff] <;> omega) | with_unfolding_all rfl | decide)) only [go_sem, Nat.reduceAdd, Nat.reduceSub, Nat.reduceMul, Nat.reduceLeDiff, Nat.reduceEqDiff, Nat.reduceBEq, reduceIte, reduceCtorEq, show decide ((l.length : Int) < l.length) = false from by simp]
  | succ d ih =>
    intro k hk
    have hlt : k < l.length := by omega
    have hd : decide ((k : Int) < l.length) = true := by simp; omega
    have hc : l[k]? = some l[k] := by simp [hlt]
    have hg := get_enc hc
    have hn' : IntKind.i64.wrap ((k : Int) + 1) = ((k + 1 : Nat) : Int) := by rw [w64 (by omega) (by omega)]; rfl
    have he : (encB l[k]).length = 1 := rfl
    rw [lp_round]
    simp -implicitDefEqProofs (disch := (refine id_ok ?_; first | assumption | omega | (simp only [go_sem, List.size_toArray, List.length_map, List.length_append, List.length_take, List.length_drop, List.length_cons, List.length_nil, mrLL_app, keyD_i, keyD_s, keyD_b, Nat.reduceAdd, Nat.reduceEqDiff, Nat.reduceLeDiff] <;> omega) | with_unfolding_all rfl | decide)) only [go_sem, Nat.reduceAdd, Nat.reduceSub, Nat.reduceMul, Nat.reduceLeDiff, Nat.reduceEqDiff, Nat.reduceBEq, reduceIte, reduceCtorEq, hd, hg, he, hn', encB, take_run hp_get_new (foldl_ok (l.take k) hs), ← foldl_take_succ mix s _ _ _ hc]
    exact ih (k + 1) (by omega)

theorem of_run {l : List UInt8} {h : AH} (hn : l.length < 140737488355328) : run T 25 [.sl .sh (l.map encB)] h = some (.int .i64 (ofB l), h) := by
  have hq := of_loop (l := l) (v0 := .sl .sh (l.map encB)) (h := h) ok0 hn l.length 0 rfl
  rw [List.take_zero, List.foldl_nil, show pairC (1, 40389) = [.int .u32 1, .int .u32 40389] from rfl, show ((0 : Nat) : Int) = 0 from rfl] at hq
  rw [run_code T_25]
  simp -implicitDefEqProofs (disch := (refine id_ok ?_; first | assumption | omega | (simp only [go_sem, List.size_toArray, List.length_map, List.length_append, List.length_take, List.length_drop, List.length_cons, List.length_nil, mrLL_app, keyD_i, keyD_s, keyD_b, Nat.reduceAdd, Nat.reduceEqDiff, Nat.reduceLeDiff] <;> omega) | with_unfolding_all rfl | decide)) only [go_sem, Nat.reduceAdd, Nat.reduceSub, Nat.reduceMul, Nat.reduceLeDiff, Nat.reduceEqDiff, Nat.reduceBEq, reduceIte, reduceCtorEq, c_digest_Of, List.length_map, hq, end_run hp_get_new (foldl_ok l ok0)]
  rw [← List.foldl_append]
  rfl
end Go.Proofs.Ytgmhbncbmpahjaa.L
