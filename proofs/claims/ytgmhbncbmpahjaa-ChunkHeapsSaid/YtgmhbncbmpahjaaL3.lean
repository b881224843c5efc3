/- The digest's reference, and the first two statements. -/
import Derived.Test.YtgmhbncbmpahjaaL2
set_option linter.all false
set_option maxRecDepth 100000
namespace Go.Proofs.Ytgmhbncbmpahjaa.L
open Go.Proofs.Ytgmhbncbmpahjaa.M Go.Proofs.Ytgmhbncbmpahjaa.F Go.Proofs

theorem u8n (n : Nat) (h : n < 256) : (((UInt8.ofNat n).toNat : Nat) : Int) = n := by
  rw [UInt8.toNat_ofNat']; omega
def u64n (n : Int) (k : Nat) : Nat := (n % 18446744073709551616).toNat / 2 ^ (8 * k)
theorem u64n_succ (n : Int) (k : Nat) : u64n n (k + 1) = u64n n k / 256 := by
  simp only [u64n]
  rw [Nat.div_div_eq_div_mul]
  congr 1
  rw [show 8 * (k + 1) = 8 * k + 8 by omega, Nat.pow_add]
theorem u64n_zero (n : Int) : (u64n n 0 : Int) = n % 18446744073709551616 := by
  simp only [u64n, Nat.mul_zero, Nat.pow_zero, Nat.div_one]
  exact Int.toNat_of_nonneg (Int.emod_nonneg _ (by decide))
theorem u64n_lt (n : Int) (k : Nat) : u64n n k < 18446744073709551616 := by
  have : u64n n k ≤ (n % 18446744073709551616).toNat := Nat.div_le_self _ _
  omega
theorem u64n_byte (n : Int) (k : Nat) (hk : k < 8) : u64n n k % 256 = ((n / (2 ^ (8 * k) : Nat)) % 256).toNat := by
  simp only [u64n]
  have h1 : ((n % 18446744073709551616).toNat : Int) = n % 18446744073709551616 := Int.toNat_of_nonneg (Int.emod_nonneg _ (by decide))
  apply Int.ofNat.inj
  show (((n % 18446744073709551616).toNat / 2 ^ (8 * k) % 256 : Nat) : Int) = _
  rw [Int.natCast_emod, Int.natCast_ediv, h1]
  show _ = (((n / (2 ^ (8 * k) : Nat)) % 256).toNat : Int)
  rw [Int.toNat_of_nonneg (Int.emod_nonneg _ (by decide))]
  rcases (by omega : k = 0 ∨ k = 1 ∨ k = 2 ∨ k = 3 ∨ k = 4 ∨ k = 5 ∨ k = 6 ∨ k = 7) with rfl | rfl | rfl | rfl | rfl | rfl | rfl | rfl <;> simp <;> omega


theorem eight_loop {n : Int} {h : AH} : ∀ (d k : Nat), d + k = 8 →
    den T (.loop l_regencyref04_Eight_0) (s_regencyref04_Eight_0 (ow (((bytes8 n).take k).map encB)) (.int .u64 (u64n n k)) (.int .i64 k)) h =
      some (.exit 0, x_regencyref04_Eight_0 (ow ((bytes8 n).map encB)), h) := by
  intro d
  induction d with
  | zero =>
    intro k hk
    have : k = 8 := by omega
    subst this
    rw [lp_round, List.take_of_length_le (by rw [bytes8_len]; exact Nat.le_refl _)]
    simp -implicitDefEqProofs (disch := (refine id_ok ?_; first | assumption | omega | (simp only [go_sem, List.size_toArray, List.length_map, List.length_append, List.length_take, List.length_drop, List.length_cons, List.length_nil, mrLL_app, keyD_i, keyD_s, keyD_b, Nat.reduceAdd, Nat.reduceEqDiff, Nat.reduceLeDiff] <;> omega) | with_unfolding_all rfl | decide)) only [go_sem, Nat.reduceAdd, Nat.reduceSub, Nat.reduceMul, Nat.reduceLeDiff, Nat.reduceEqDiff, Nat.reduceBEq, reduceIte, reduceCtorEq, show decide (((8 : Nat) : Int) < 8) = false from rfl]
  | succ d ih =>
    intro k hk
    have hlt : k < 8 := by omega
    have hd : decide ((k : Int) < 8) = true := by simp; omega
    have hn' : IntKind.i64.wrap ((k : Int) + 1) = ((k + 1 : Nat) : Int) := by rw [w64 (by omega) (by omega)]; rfl
    have hb := bytes8_get n k hlt
    have hv : IntKind.u8.wrap ((u64n n k : Int).tmod 256) = ((UInt8.ofNat ((n / (2 ^ (8 * k) : Nat)) % 256).toNat).toNat : Int) := by
      rw [← u64n_byte n k hlt, w8, UInt8.toNat_ofNat', Int.tmod_eq_emod_of_nonneg (by omega)]; omega
    have hq : IntKind.u64.wrap ((u64n n k : Int).tdiv 256) = (u64n n (k + 1) : Int) := by
      have := u64n_lt n k
      rw [u64n_succ, wu64, Int.tdiv_eq_ediv_of_nonneg (by omega)]; omega
    have hlen : (((bytes8 n).take k).map encB).length ≤ 8 := by rw [List.length_map, List.length_take, bytes8_len]; omega
    have ha : ((bytes8 n).take k).map encB ++ [[AV.int .u8 ((UInt8.ofNat ((n / (2 ^ (8 * k) : Nat)) % 256).toNat).toNat : Int)]] = ((bytes8 n).take (k + 1)).map encB := by
      rw [List.take_add_one, hb]; simp [encB]
    rw [lp_round]
    simp -implicitDefEqProofs (disch := (refine id_ok ?_; first | assumption | omega | (simp only [go_sem, List.size_toArray, List.length_map, List.length_append, List.length_take, List.length_drop, List.length_cons, List.length_nil, mrLL_app, keyD_i, keyD_s, keyD_b, Nat.reduceAdd, Nat.reduceEqDiff, Nat.reduceLeDiff] <;> omega) | with_unfolding_all rfl | decide)) only [go_sem, Nat.reduceAdd, Nat.reduceSub, Nat.reduceMul, Nat.reduceLeDiff, Nat.reduceEqDiff, Nat.reduceBEq, reduceIte, reduceCtorEq, hd, hn', hv, hq, ha, Bool.false_eq_true]
    exact ih (k + 1) (by omega)

theorem eight_run {n : Int} {h : AH} : run T 30 [.int .i64 n] h = some (ow ((bytes8 n).map encB), h) := by
  have hq := eight_loop (n := n) (h := h) 8 0 rfl
  rw [List.take_zero, List.map_nil, show ((0 : Nat) : Int) = 0 from rfl, u64n_zero] at hq
  rw [run_code T_30]
  simp -implicitDefEqProofs (disch := (refine id_ok ?_; first | assumption | omega | (simp only [go_sem, List.size_toArray, List.length_map, List.length_append, List.length_take, List.length_drop, List.length_cons, List.length_nil, mrLL_app, keyD_i, keyD_s, keyD_b, Nat.reduceAdd, Nat.reduceEqDiff, Nat.reduceLeDiff] <;> omega) | with_unfolding_all rfl | decide)) only [go_sem, Nat.reduceAdd, Nat.reduceSub, Nat.reduceMul, Nat.reduceLeDiff, Nat.reduceEqDiff, Nat.reduceBEq, reduceIte, reduceCtorEq, c_regencyref04_Eight, wu64, hq]
theorem wuN (n : Nat) (h : n < 18446744073709551616) : IntKind.u64.wrap (n : Int) = n := by rw [wu64]; omega
theorem tmodN (n m : Nat) : ((n : Int).tmod (m : Int)) = ((n % m : Nat) : Int) := by rw [Int.tmod_eq_emod_of_nonneg (by omega)]; omega
theorem ref_a (a c : Nat) (ha : a < 4294967296) (hc : c < 256) : (IntKind.u64.wrap (IntKind.u64.wrap ((a : Int) * 16777619) + IntKind.u64.wrap (c : Int))).tmod 4294967296 = ((a * 16777619 + c) % 4294967296 : Nat) := by
  rw [show (a : Int) * 16777619 = ((a * 16777619 : Nat) : Int) by omega, wuN _ (by omega), wuN _ (by omega), show ((a * 16777619 : Nat) : Int) + c = ((a * 16777619 + c : Nat) : Int) by omega, wuN _ (by omega)]
  exact tmodN _ 4294967296
theorem ref_t (b a : Nat) (ha : a < 4294967296) (hb : b < 4294967296) : (IntKind.u64.wrap ((b : Int) + (a : Int))).tmod 4294967296 = ((b + a) % 4294967296 : Nat) := by
  rw [show (b : Int) + (a : Int) = ((b + a : Nat) : Int) by omega, wuN _ (by omega)]
  exact tmodN _ 4294967296
theorem ref_b (t : Nat) (ht : t < 4294967296) : IntKind.u64.wrap ((IntKind.u64.wrap ((t : Int) * 128)).tmod 4294967296 + IntKind.u64.wrap ((t : Int).tdiv 33554432)) = (t * 128 % 4294967296 + t / 33554432 : Nat) := by
  have e1 : (IntKind.u64.wrap ((t : Int) * 128)).tmod 4294967296 = ((t * 128 % 4294967296 : Nat) : Int) := by
    rw [show (t : Int) * 128 = ((t * 128 : Nat) : Int) by omega, wuN _ (by omega)]; exact tmodN _ 4294967296
  have e2 : (t : Int).tdiv 33554432 = ((t / 33554432 : Nat) : Int) := by rw [Int.tdiv_eq_ediv_of_nonneg (by omega)]; omega
  rw [e1, e2, wuN _ (by omega), show ((t * 128 % 4294967296 : Nat) : Int) + ((t / 33554432 : Nat) : Int) = ((t * 128 % 4294967296 + t / 33554432 : Nat) : Int) by omega, wuN _ (by omega)]
theorem ref_n (a b : Nat) (ha : a < 4294967296) (hb : b < 4294967296) : IntKind.i64.wrap ((IntKind.u64.wrap (IntKind.u64.wrap ((a : Int) * 4294967296) + (b : Int))).tmod 4611686018427387904) = (num (a, b) : Int) := by
  rw [show (a : Int) * 4294967296 = ((a * 4294967296 : Nat) : Int) by omega, wuN _ (by omega), show ((a * 4294967296 : Nat) : Int) + (b : Int) = ((a * 4294967296 + b : Nat) : Int) by omega, wuN _ (by omega)]
  have e : (((a * 4294967296 + b : Nat) : Int)).tmod 4611686018427387904 = (((a * 4294967296 + b) % 4611686018427387904 : Nat) : Int) := tmodN _ 4611686018427387904
  rw [e, w64 (by omega) (by omega)]
  rfl


theorem rof_loop {l : List UInt8} {h : AH} (hn : l.length < 140737488355400) : ∀ (d k : Nat), d + k = l.length →
    den T (.loop l_regencyref04_Of_0) (s_regencyref04_Of_0 (.int .u64 ((l.take k).foldl mix (1, 40389)).1) (.int .u64 ((l.take k).foldl mix (1, 40389)).2) (ow (l.map encB)) (.int .i64 l.length) (.int .i64 k)) h =
      some (.exit 0, x_regencyref04_Of_0 (.int .u64 (l.foldl mix (1, 40389)).1) (.int .u64 (l.foldl mix (1, 40389)).2), h) := by
  intro d
  induction d with
  | zero =>
    intro k hk
    have : k = l.length := by omega
    subst this
    rw [lp_round, List.take_length]
    simp -implicitDefEqProofs (disch := (refine id_ok ?_; first | assumption | omega | (simp only [go_sem, List.size_toArray, List.length_map, List.length_append, List.length_take, List.length_drop, List.length_cons, List.length_nil, mrLL_app, keyD_i, keyD_s, keyD_b, Nat.reduceAdd, Nat.reduceEqDiff, Nat.reduceLeDiff] <;> omega) | with_unfolding_all rfl | decide)) only [go_sem, Nat.reduceAdd, Nat.reduceSub, Nat.reduceMul, Nat.reduceLeDiff, Nat.reduceEqDiff, Nat.reduceBEq, reduceIte, reduceCtorEq, show decide ((l.length : Int) < l.length) = false from by simp]
  | succ d ih =>
    intro k hk
    have hlt : k < l.length := by omega
    have hd : decide ((k : Int) < l.length) = true := by simp; omega
    have hc : l[k]? = some l[k] := by simp [hlt]
    have hg := get_enc hc
    have hn' : IntKind.i64.wrap ((k : Int) + 1) = ((k + 1 : Nat) : Int) := by rw [w64 (by omega) (by omega)]; rfl
    have he : (encB l[k]).length = 1 := rfl
    have hok := foldl_ok (l.take k) ok0
    have := ih (k + 1) (by omega)
    rw [foldl_take_succ mix _ _ _ _ hc] at this
    have hcc := l[k].toNat_lt
    generalize (l.take k).foldl mix (1, 40389) = s at *
    have e1 := ref_a s.1 l[k].toNat hok.1 hcc
    have e2 := ref_t s.2 ((s.1 * 16777619 + l[k].toNat) % 4294967296) (by omega) hok.2
    have e3 := ref_b ((s.2 + (s.1 * 16777619 + l[k].toNat) % 4294967296) % 4294967296) (by omega)
    rw [lp_round]
    simp -implicitDefEqProofs (disch := (refine id_ok ?_; first | assumption | omega | (simp only [go_sem, List.size_toArray, List.length_map, List.length_append, List.length_take, List.length_drop, List.length_cons, List.length_nil, mrLL_app, keyD_i, keyD_s, keyD_b, Nat.reduceAdd, Nat.reduceEqDiff, Nat.reduceLeDiff] <;> omega) | with_unfolding_all rfl | decide)) only [go_sem, Nat.reduceAdd, Nat.reduceSub, Nat.reduceMul, Nat.reduceLeDiff, Nat.reduceEqDiff, Nat.reduceBEq, reduceIte, reduceCtorEq, hd, hg, he, hn', encB, e1, e2, e3]
    exact this

theorem rof_run {l : List UInt8} {h : AH} (hn : l.length < 140737488350000) : run T 26 [.sl .sh (l.map encB)] h = some (.int .i64 (ofB l), h) := by
  have hL : (l ++ bytes8 l.length).length = l.length + 8 := by rw [List.length_append, bytes8_len]
  have hq := rof_loop (l := l ++ bytes8 l.length) (h := h) (by omega) _ 0 rfl
  simp only [List.take_zero, List.foldl_nil, show ((0 : Nat) : Int) = 0 from rfl, show ((1 : Nat) : Int) = 1 from rfl, show ((40389 : Nat) : Int) = 40389 from rfl, List.length_append, bytes8_len] at hq
  have hok := foldl_ok (l ++ bytes8 l.length) ok0
  have e1 := ref_n _ _ hok.1 hok.2
  rw [run_code T_26]
  simp -implicitDefEqProofs (disch := (refine id_ok ?_; first | assumption | omega | (simp only [go_sem, List.size_toArray, List.length_map, List.length_append, List.length_take, List.length_drop, List.length_cons, List.length_nil, mrLL_app, keyD_i, keyD_s, keyD_b, Nat.reduceAdd, Nat.reduceEqDiff, Nat.reduceLeDiff] <;> omega) | with_unfolding_all rfl | decide)) only [go_sem, Nat.reduceAdd, Nat.reduceSub, Nat.reduceMul, Nat.reduceLeDiff, Nat.reduceEqDiff, Nat.reduceBEq, reduceIte, reduceCtorEq, c_regencyref04_Of, List.length_map, eight_run, ← List.map_append, List.length_append, bytes8_len, hq, e1]
  rfl

end Go.Proofs.Ytgmhbncbmpahjaa.L
