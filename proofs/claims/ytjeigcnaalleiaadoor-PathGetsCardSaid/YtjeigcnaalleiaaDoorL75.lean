/- The document's numbers as they are told: of any int. -/
import Derived.Test.YtjeigcnaalleiaaDoorL20
import Derived.Test.YtjeigcnaalleiaaDoorL22
import Derived.Test.YtjeigcnaalleiaaDoorL74
set_option linter.all false
set_option maxRecDepth 100000
namespace Go.Proofs.YtjeigcnaalleiaaDoor.L
open Go.Proofs.YtjeigcnaalleiaaDoor.M Go.Proofs.YtjeigcnaalleiaaDoor.F Go.Proofs

theorem incN {n : Nat} (h : n ≤ 9223372036854775806) : IntKind.i64.wrap ((n : Int) + 1) = ((n + 1 : Nat) : Int) := by rw [w64 (by omega) (by omega)]; rfl
theorem dec_len : ∀ (k u : Nat), u < 10 ^ (k + 1) → (Lib.decDigits u).length ≤ k + 1
  | 0, u, h => by rw [Lib.decDigits, dif_pos (by simpa using h)]; simp
  | k + 1, u, h => by
    rw [Lib.decDigits]
    split
    · simp
    · have h2 : u / 10 < 10 ^ (k + 1) := by
        refine Nat.div_lt_of_lt_mul ?_
        rw [Nat.pow_succ] at h; omega
      have := dec_len k (u / 10) h2
      simp; omega
def topD (u : Nat) : Nat := if h : u < 10 then u else topD (u / 10)
termination_by u
decreasing_by omega
def tailD (u : Nat) : List UInt8 := if h : u < 10 then [] else tailD (u / 10) ++ [UInt8.ofNat (48 + u % 10)]
termination_by u
decreasing_by omega
theorem topD_lt (u : Nat) : topD u < 10 := by
  induction u using Nat.strongRecOn with
  | _ u ih =>
    rw [topD]; split
    · assumption
    · exact ih _ (by omega)
theorem dec_top (u : Nat) : Lib.decDigits u = UInt8.ofNat (48 + topD u) :: tailD u := by
  induction u using Nat.strongRecOn with
  | _ u ih =>
    rw [Lib.decDigits, topD, tailD]
    split
    · rfl
    · rw [ih (u / 10) (by omega)]; rfl
theorem dslc {d : Nat} (h : d < 10) : sliceV none (.str ⟨#[48, 49, 50, 51, 52, 53, 54, 55, 56, 57]⟩) (some (some (d : Int))) (some (some ((d + 1 : Nat) : Int))) (some none) = some (.str ⟨[UInt8.ofNat (48 + d)].toArray⟩) := by
  match d, h with
  | 0, _ => rfl
  | 1, _ => rfl
  | 2, _ => rfl
  | 3, _ => rfl
  | 4, _ => rfl
  | 5, _ => rfl
  | 6, _ => rfl
  | 7, _ => rfl
  | 8, _ => rfl
  | 9, _ => rfl
  | d + 10, h => omega
theorem tm10 {n : Nat} : (n : Int).tmod 10 = ((n % 10 : Nat) : Int) := by rw [Int.tmod_eq_emod_of_nonneg (by omega)]; rfl
theorem tail_len64 (u : Nat) (h : u ≤ 9223372036854775808) : (tailD u).length ≤ 19 := by
  have h1 := dec_len 19 u (by omega)
  rw [dec_top] at h1
  simp at h1; omega
theorem td10W {n : Nat} (h : n ≤ 9223372036854775807) : IntKind.i64.wrap ((n : Int).tdiv 10) = ((n / 10 : Nat) : Int) := by
  rw [Int.tdiv_eq_ediv_of_nonneg (by omega), w64 (by omega) (by omega)]; omega
theorem numW_loop {h : AH} : ∀ (u : Nat) (r : List UInt8), u ≤ 9223372036854775807 → (tailD u).length + r.length ≤ 1000 →
    den T (.loop l_regencyref01_num_1) (s_regencyref01_num_1 (.int .i64 u) (.str ⟨r.toArray⟩)) h = some (.exit 2, x_regencyref01_num_2 (.int .i64 (topD u : Nat)) (.str ⟨(tailD u ++ r).toArray⟩), h) := by
  intro u
  induction u using Nat.strongRecOn with
  | _ u ih =>
    intro r hu hr
    rw [lp_round]
    by_cases hc : u < 10
    · have hd : decide ((u : Int) ≥ 10) = false := decide_eq_false (by omega)
      rw [topD, tailD]
      simp -implicitDefEqProofs (disch := (refine id_ok ?_; first | assumption | omega | (simp only [go_sem, List.size_toArray, List.length_map, List.length_append, List.length_take, List.length_drop, List.length_cons, List.length_nil, mrLL_app, keyD_i, keyD_s, keyD_b, Nat.reduceAdd, Nat.reduceEqDiff, Nat.reduceLeDiff] <;> omega) | with_unfolding_all rfl | decide)) only [go_sem, Nat.reduceAdd, Nat.reduceSub, Nat.reduceMul, Nat.reduceLeDiff, Nat.reduceEqDiff, Nat.reduceBEq, reduceIte, reduceCtorEq, hc, hd, dite_true, List.nil_append]
    · have hd : decide ((u : Int) ≥ 10) = true := decide_eq_true (by omega)
      have hsl := dslc (d := u % 10) (by omega)
      have hi := incN (n := u % 10) (by omega)
      have hq := td10W hu
      rw [tailD, dif_neg hc, List.length_append, List.length_cons, List.length_nil] at hr
      have := ih (u / 10) (by omega) (UInt8.ofNat (48 + u % 10) :: r) (by omega) (by rw [List.length_cons]; omega)
      rw [topD, tailD]
      simp only [hc, dite_false, List.append_assoc, List.singleton_append]
      have e1 : (u : Int).tmod 10 = ((u % 10 : Nat) : Int) := tm10
      simp -implicitDefEqProofs (disch := (refine id_ok ?_; first | assumption | omega | (simp only [go_sem, List.size_toArray, List.length_map, List.length_append, List.length_take, List.length_drop, List.length_cons, List.length_nil, mrLL_app, keyD_i, keyD_s, keyD_b, Nat.reduceAdd, Nat.reduceEqDiff, Nat.reduceLeDiff] <;> omega) | with_unfolding_all rfl | decide)) only [go_sem, Nat.reduceAdd, Nat.reduceSub, Nat.reduceMul, Nat.reduceLeDiff, Nat.reduceEqDiff, Nat.reduceBEq, reduceIte, reduceCtorEq, hd, e1, hi, hsl, hq, List.cons_append, List.nil_append]
      exact this
theorem numN_loop {h : AH} : ∀ (u : Nat) (r : List UInt8), u ≤ 9223372036854775808 → (tailD u).length + r.length ≤ 1000 →
    den T (.loop l_regencyref01_num_0) (s_regencyref01_num_0 (.int .i64 (-(u : Int))) (.str ⟨r.toArray⟩)) h = some (.exit 0, x_regencyref01_num_0 (.int .i64 (-((topD u : Nat) : Int))) (.str ⟨(tailD u ++ r).toArray⟩), h) := by
  intro u
  induction u using Nat.strongRecOn with
  | _ u ih =>
    intro r hu hr
    rw [lp_round]
    by_cases hc : u < 10
    · have hd : decide (-(u : Int) ≤ -10) = false := decide_eq_false (by omega)
      rw [topD, tailD]
      simp -implicitDefEqProofs (disch := (refine id_ok ?_; first | assumption | omega | (simp only [go_sem, List.size_toArray, List.length_map, List.length_append, List.length_take, List.length_drop, List.length_cons, List.length_nil, mrLL_app, keyD_i, keyD_s, keyD_b, Nat.reduceAdd, Nat.reduceEqDiff, Nat.reduceLeDiff] <;> omega) | with_unfolding_all rfl | decide)) only [go_sem, Nat.reduceAdd, Nat.reduceSub, Nat.reduceMul, Nat.reduceLeDiff, Nat.reduceEqDiff, Nat.reduceBEq, reduceIte, reduceCtorEq, hc, hd, dite_true, List.nil_append]
    · have hd : decide (-(u : Int) ≤ -10) = true := decide_eq_true (by omega)
      have hsl := dslc (d := u % 10) (by omega)
      have hi := incN (n := u % 10) (by omega)
      have hq : IntKind.i64.wrap ((-(u : Int)).tdiv 10) = -((u / 10 : Nat) : Int) := by
        rw [Int.neg_tdiv, Int.tdiv_eq_ediv_of_nonneg (by omega), w64 (by omega) (by omega)]; omega
      have e1 : IntKind.i64.wrap (0 - (-(u : Int)).tmod 10) = ((u % 10 : Nat) : Int) := by
        rw [Int.neg_tmod, Int.tmod_eq_emod_of_nonneg (by omega), w64 (by omega) (by omega)]; omega
      rw [tailD, dif_neg hc, List.length_append, List.length_cons, List.length_nil] at hr
      have := ih (u / 10) (by omega) (UInt8.ofNat (48 + u % 10) :: r) (by omega) (by rw [List.length_cons]; omega)
      rw [topD, tailD]
      simp only [hc, dite_false, List.append_assoc, List.singleton_append]
      simp -implicitDefEqProofs (disch := (refine id_ok ?_; first | assumption | omega | (simp only [go_sem, List.size_toArray, List.length_map, List.length_append, List.length_take, List.length_drop, List.length_cons, List.length_nil, mrLL_app, keyD_i, keyD_s, keyD_b, Nat.reduceAdd, Nat.reduceEqDiff, Nat.reduceLeDiff] <;> omega) | with_unfolding_all rfl | decide)) only [go_sem, Nat.reduceAdd, Nat.reduceSub, Nat.reduceMul, Nat.reduceLeDiff, Nat.reduceEqDiff, Nat.reduceBEq, reduceIte, reduceCtorEq, hd, e1, hi, hsl, hq, List.cons_append, List.nil_append]
      exact this
theorem numA_run {n : Int} {h : AH} (h0 : -9223372036854775808 ≤ n) (h1 : n ≤ 9223372036854775807) : run T 69 [.int .i64 n] h = some (.str ⟨(Lib.itoa n).toArray⟩, h) := by
  rw [run_code T_69]
  unfold Lib.itoa
  by_cases hn : n < 0
  · obtain ⟨u, rfl⟩ : ∃ u : Nat, n = -(u : Int) := ⟨n.natAbs, by omega⟩
    have hu : u ≤ 9223372036854775808 := by omega
    have hlp := numN_loop (h := h) u [] hu (by have := tail_len64 u hu; simp; omega)
    have d1 : decide (-(u : Int) < 0) = true := decide_eq_true (by omega)
    have ht := topD_lt u
    have hsl := dslc ht
    have hi := incN (n := topD u) (by omega)
    have htl := tail_len64 u hu
    have e1 : IntKind.i64.wrap (0 - -((topD u : Nat) : Int)) = ((topD u : Nat) : Int) := by rw [w64 (by omega) (by omega)]; omega
    rw [List.append_nil] at hlp
    rw [if_pos hn, show (-(u : Int)).natAbs = u by omega, dec_top]
    simp -implicitDefEqProofs (disch := (refine id_ok ?_; first | assumption | omega | (simp only [go_sem, List.size_toArray, List.length_map, List.length_append, List.length_take, List.length_drop, List.length_cons, List.length_nil, mrLL_app, keyD_i, keyD_s, keyD_b, Nat.reduceAdd, Nat.reduceEqDiff, Nat.reduceLeDiff] <;> omega) | with_unfolding_all rfl | decide)) only [go_sem, Nat.reduceAdd, Nat.reduceSub, Nat.reduceMul, Nat.reduceLeDiff, Nat.reduceEqDiff, Nat.reduceBEq, reduceIte, reduceCtorEq, c_regencyref01_num, d1, hlp, e1, hi, hsl, List.cons_append, List.nil_append]
  · obtain ⟨u, rfl⟩ : ∃ u : Nat, n = (u : Int) := ⟨n.toNat, by omega⟩
    have hu : u ≤ 9223372036854775807 := by omega
    have hlp := numW_loop (h := h) u [] hu (by have := tail_len64 u (by omega); simp; omega)
    have d1 : decide ((u : Int) < 0) = false := decide_eq_false (by omega)
    have ht := topD_lt u
    have hsl := dslc ht
    have hi := incN (n := topD u) (by omega)
    have htl := tail_len64 u (by omega)
    rw [List.append_nil] at hlp
    rw [if_neg hn, Int.toNat_natCast, dec_top]
    simp -implicitDefEqProofs (disch := (refine id_ok ?_; first | assumption | omega | (simp only [go_sem, List.size_toArray, List.length_map, List.length_append, List.length_take, List.length_drop, List.length_cons, List.length_nil, mrLL_app, keyD_i, keyD_s, keyD_b, Nat.reduceAdd, Nat.reduceEqDiff, Nat.reduceLeDiff] <;> omega) | with_unfolding_all rfl | decide)) only [go_sem, Nat.reduceAdd, Nat.reduceSub, Nat.reduceMul, Nat.reduceLeDiff, Nat.reduceEqDiff, Nat.reduceBEq, reduceIte, reduceCtorEq, c_regencyref01_num, d1, hlp, hi, hsl, List.cons_append, List.nil_append]
theorem numI_run {n : Int} {h : AH} (h0 : -9223372036854775808 ≤ n) (h1 : n ≤ 9223372036854775807) : run T 46 [.int .i64 n] h = some (.str ⟨(Lib.itoa n).toArray⟩, h) := by
  have h1 := numA_run (h := []) h0 h1
  rw [run_code T_46]
  simp -implicitDefEqProofs (disch := (refine id_ok ?_; first | assumption | omega | (simp only [go_sem, List.size_toArray, List.length_map, List.length_append, List.length_take, List.length_drop, List.length_cons, List.length_nil, mrLL_app, keyD_i, keyD_s, keyD_b, Nat.reduceAdd, Nat.reduceEqDiff, Nat.reduceLeDiff] <;> omega) | with_unfolding_all rfl | decide)) only [go_sem, Nat.reduceAdd, Nat.reduceSub, Nat.reduceMul, Nat.reduceLeDiff, Nat.reduceEqDiff, Nat.reduceBEq, reduceIte, reduceCtorEq, c_regencyref01_Num, h1]
theorem itoa_len {n : Int} (h0 : -9223372036854775808 ≤ n) (h1 : n ≤ 9223372036854775807) : (Lib.itoa n).length ≤ 21 := by
  unfold Lib.itoa
  split
  · have := dec_len 19 n.natAbs (by omega)
    simp; omega
  · have := dec_len 19 n.toNat (by omega)
    omega
end Go.Proofs.YtjeigcnaalleiaaDoor.L
