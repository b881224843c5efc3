/- Chunks: heads, how many there are, their lengths. -/
import Derived.Test.YtgmhbncbmpahjaaL9
set_option linter.all false
set_option maxRecDepth 100000
namespace Go.Proofs.Ytgmhbncbmpahjaa.L
open Go.Proofs.Ytgmhbncbmpahjaa.M Go.Proofs.Ytgmhbncbmpahjaa.F Go.Proofs

abbrev hd (l s d : Int) : List AV := [.int .i64 l, .int .i64 s, .int .i64 d]
def sizeP (s : Int) : Prop := 1 ≤ s ∧ s ≤ 512
instance (s : Int) : Decidable (sizeP s) := by unfold sizeP; infer_instance
def rightP (l s d : Int) : Prop := 0 ≤ l ∧ l ≤ 1073741824 ∧ sizeP s ∧ 0 ≤ d ∧ d ≤ 4611686018427387903
instance (l s d : Int) : Decidable (rightP l s d) := by unfold rightP; infer_instance

theorem size_run {s : Int} {h : AH} : run T 27 [.int .i64 s] h = some (.bool (decide (sizeP s)), h) := by
  rw [run_code T_27]
  by_cases h1 : 1 ≤ s
  · have e1 : decide (1 ≤ s) = true := decide_eq_true h1
    simp -implicitDefEqProofs (disch := (refine id_ok ?_; first | assumption | omega | (simp only [go_sem, List.size_toArray, List.length_map, List.length_append, List.length_take, List.length_drop, List.length_cons, List.length_nil, mrLL_app, keyD_i, keyD_s, keyD_b, Nat.reduceAdd, Nat.reduceEqDiff, Nat.reduceLeDiff] <;> omega) | with_unfolding_all rfl | decide)) only [go_sem, Nat.reduceAdd, Nat.reduceSub, Nat.reduceMul, Nat.reduceLeDiff, Nat.reduceEqDiff, Nat.reduceBEq, reduceIte, reduceCtorEq, c_chunk_size, e1]
    simp [sizeP, h1]
  · have e1 : decide (1 ≤ s) = false := decide_eq_false h1
    simp -implicitDefEqProofs (disch := (refine id_ok ?_; first | assumption | omega | (simp only [go_sem, List.size_toArray, List.length_map, List.length_append, List.length_take, List.length_drop, List.length_cons, List.length_nil, mrLL_app, keyD_i, keyD_s, keyD_b, Nat.reduceAdd, Nat.reduceEqDiff, Nat.reduceLeDiff] <;> omega) | with_unfolding_all rfl | decide)) only [go_sem, Nat.reduceAdd, Nat.reduceSub, Nat.reduceMul, Nat.reduceLeDiff, Nat.reduceEqDiff, Nat.reduceBEq, reduceIte, reduceCtorEq, c_chunk_size, e1]
    simp [sizeP, h1]

theorem right_run {l s d : Int} {h : AH} : run T 19 [.agg (hd l s d)] h = some (.bool (decide (rightP l s d)), h) := by
  rw [run_code T_19]
  by_cases h1 : 0 ≤ l
  · have e1 : decide (0 ≤ l) = true := decide_eq_true h1
    by_cases h2 : l ≤ 1073741824
    · have e2 : decide (l ≤ 1073741824) = true := decide_eq_true h2
      by_cases h3 : sizeP s
      · have e3 : decide (sizeP s) = true := decide_eq_true h3
        by_cases h4 : 0 ≤ d
        · have e4 : decide (0 ≤ d) = true := decide_eq_true h4
          simp -implicitDefEqProofs (disch := (refine id_ok ?_; first | assumption | omega | (simp only [go_sem, List.size_toArray, List.length_map, List.length_append, List.length_take, List.length_drop, List.length_cons, List.length_nil, mrLL_app, keyD_i, keyD_s, keyD_b, Nat.reduceAdd, Nat.reduceEqDiff, Nat.reduceLeDiff] <;> omega) | with_unfolding_all rfl | decide)) only [go_sem, Nat.reduceAdd, Nat.reduceSub, Nat.reduceMul, Nat.reduceLeDiff, Nat.reduceEqDiff, Nat.reduceBEq, reduceIte, reduceCtorEq, c_chunk_Right, hd, size_run, e1, e2, e3, e4]
          simp [rightP, h1, h2, h3, h4]
        · have e4 : decide (0 ≤ d) = false := decide_eq_false h4
          simp -implicitDefEqProofs (disch := (refine id_ok ?_; first | assumption | omega | (simp only [go_sem, List.size_toArray, List.length_map, List.length_append, List.length_take, List.length_drop, List.length_cons, List.length_nil, mrLL_app, keyD_i, keyD_s, keyD_b, Nat.reduceAdd, Nat.reduceEqDiff, Nat.reduceLeDiff] <;> omega) | with_unfolding_all rfl | decide)) only [go_sem, Nat.reduceAdd, Nat.reduceSub, Nat.reduceMul, Nat.reduceLeDiff, Nat.reduceEqDiff, Nat.reduceBEq, reduceIte, reduceCtorEq, c_chunk_Right, hd, size_run, e1, e2, e3, e4]
          simp [rightP, h4]
      · have e3 : decide (sizeP s) = false := decide_eq_false h3
        simp -implicitDefEqProofs (disch := (refine id_ok ?_; first | assumption | omega | (simp only [go_sem, List.size_toArray, List.length_map, List.length_append, List.length_take, List.length_drop, List.length_cons, List.length_nil, mrLL_app, keyD_i, keyD_s, keyD_b, Nat.reduceAdd, Nat.reduceEqDiff, Nat.reduceLeDiff] <;> omega) | with_unfolding_all rfl | decide)) only [go_sem, Nat.reduceAdd, Nat.reduceSub, Nat.reduceMul, Nat.reduceLeDiff, Nat.reduceEqDiff, Nat.reduceBEq, reduceIte, reduceCtorEq, c_chunk_Right, hd, size_run, e1, e2, e3]
        simp [rightP, h3]
    · have e2 : decide (l ≤ 1073741824) = false := decide_eq_false h2
      simp -implicitDefEqProofs (disch := (refine id_ok ?_; first | assumption | omega | (simp only [go_sem, List.size_toArray, List.length_map, List.length_append, List.length_take, List.length_drop, List.length_cons, List.length_nil, mrLL_app, keyD_i, keyD_s, keyD_b, Nat.reduceAdd, Nat.reduceEqDiff, Nat.reduceLeDiff] <;> omega) | with_unfolding_all rfl | decide)) only [go_sem, Nat.reduceAdd, Nat.reduceSub, Nat.reduceMul, Nat.reduceLeDiff, Nat.reduceEqDiff, Nat.reduceBEq, reduceIte, reduceCtorEq, c_chunk_Right, hd, e1, e2]
      simp [rightP, h2]
  · have e1 : decide (0 ≤ l) = false := decide_eq_false h1
    simp -implicitDefEqProofs (disch := (refine id_ok ?_; first | assumption | omega | (simp only [go_sem, List.size_toArray, List.length_map, List.length_append, List.length_take, List.length_drop, List.length_cons, List.length_nil, mrLL_app, keyD_i, keyD_s, keyD_b, Nat.reduceAdd, Nat.reduceEqDiff, Nat.reduceLeDiff] <;> omega) | with_unfolding_all rfl | decide)) only [go_sem, Nat.reduceAdd, Nat.reduceSub, Nat.reduceMul, Nat.reduceLeDiff, Nat.reduceEqDiff, Nat.reduceBEq, reduceIte, reduceCtorEq, c_chunk_Right, hd, e1]
    simp [rightP, h1]

theorem rright_run {l s d : Int} {h : AH} : run T 6 [.agg (hd l s d)] h = some (.bool (decide (rightP l s d)), h) := by
  rw [run_code T_6]
  by_cases h1 : 0 ≤ l
  · have e1 : decide (0 ≤ l) = true := decide_eq_true h1
    by_cases h2 : l ≤ 1073741824
    · have e2 : decide (l ≤ 1073741824) = true := decide_eq_true h2
      by_cases h3 : 1 ≤ s
      · have e3 : decide (1 ≤ s) = true := decide_eq_true h3
        by_cases h5 : s ≤ 512
        · have e5 : decide (s ≤ 512) = true := decide_eq_true h5
          by_cases h4 : 0 ≤ d
          · have e4 : decide (0 ≤ d) = true := decide_eq_true h4
            simp -implicitDefEqProofs (disch := (refine id_ok ?_; first | assumption | omega | (simp only [go_sem, List.size_toArray, List.length_map, List.length_append, List.length_take, List.length_drop, List.length_cons, List.length_nil, mrLL_app, keyD_i, keyD_s, keyD_b, Nat.reduceAdd, Nat.reduceEqDiff, Nat.reduceLeDiff] <;> omega) | with_unfolding_all rfl | decide)) only [go_sem, Nat.reduceAdd, Nat.reduceSub, Nat.reduceMul, Nat.reduceLeDiff, Nat.reduceEqDiff, Nat.reduceBEq, reduceIte, reduceCtorEq, c_regencyref19_Right, hd, e1, e2, e3, e4, e5]
            simp [rightP, sizeP, h1, h2, h3, h4, h5]
          · have e4 : decide (0 ≤ d) = false := decide_eq_false h4
            simp -implicitDefEqProofs (disch := (refine id_ok ?_; first | assumption | omega | (simp only [go_sem, List.size_toArray, List.length_map, List.length_append, List.length_take, List.length_drop, List.length_cons, List.length_nil, mrLL_app, keyD_i, keyD_s, keyD_b, Nat.reduceAdd, Nat.reduceEqDiff, Nat.reduceLeDiff] <;> omega) | with_unfolding_all rfl | decide)) only [go_sem, Nat.reduceAdd, Nat.reduceSub, Nat.reduceMul, Nat.reduceLeDiff, Nat.reduceEqDiff, Nat.reduceBEq, reduceIte, reduceCtorEq, c_regencyref19_Right, hd, e1, e2, e3, e4, e5]
            simp [rightP, h4]
        · have e5 : decide (s ≤ 512) = false := decide_eq_false h5
          simp -implicitDefEqProofs (disch := (refine id_ok ?_; first | assumption | omega | (simp only [go_sem, List.size_toArray, List.length_map, List.length_append, List.length_take, List.length_drop, List.length_cons, List.length_nil, mrLL_app, keyD_i, keyD_s, keyD_b, Nat.reduceAdd, Nat.reduceEqDiff, Nat.reduceLeDiff] <;> omega) | with_unfolding_all rfl | decide)) only [go_sem, Nat.reduceAdd, Nat.reduceSub, Nat.reduceMul, Nat.reduceLeDiff, Nat.reduceEqDiff, Nat.reduceBEq, reduceIte, reduceCtorEq, c_regencyref19_Right, hd, e1, e2, e3, e5]
          simp [rightP, sizeP, h5]
      · have e3 : decide (1 ≤ s) = false := decide_eq_false h3
        simp -implicitDefEqProofs (disch := (refine id_ok ?_; first | assumption | omega | (simp only [go_sem, List.size_toArray, List.length_map, List.length_append, List.length_take, List.length_drop, List.length_cons, List.length_nil, mrLL_app, keyD_i, keyD_s, keyD_b, Nat.reduceAdd, Nat.reduceEqDiff, Nat.reduceLeDiff] <;> omega) | with_unfolding_all rfl | decide)) only [go_sem, Nat.reduceAdd, Nat.reduceSub, Nat.reduceMul, Nat.reduceLeDiff, Nat.reduceEqDiff, Nat.reduceBEq, reduceIte, reduceCtorEq, c_regencyref19_Right, hd, e1, e2, e3]
        simp [rightP, sizeP, h3]
    · have e2 : decide (l ≤ 1073741824) = false := decide_eq_false h2
      simp -implicitDefEqProofs (disch := (refine id_ok ?_; first | assumption | omega | (simp only [go_sem, List.size_toArray, List.length_map, List.length_append, List.length_take, List.length_drop, List.length_cons, List.length_nil, mrLL_app, keyD_i, keyD_s, keyD_b, Nat.reduceAdd, Nat.reduceEqDiff, Nat.reduceLeDiff] <;> omega) | with_unfolding_all rfl | decide)) only [go_sem, Nat.reduceAdd, Nat.reduceSub, Nat.reduceMul, Nat.reduceLeDiff, Nat.reduceEqDiff, Nat.reduceBEq, reduceIte, reduceCtorEq, c_regencyref19_Right, hd, e1, e2]
      simp [rightP, h2]
  · have e1 : decide (0 ≤ l) = false := decide_eq_false h1
    simp -implicitDefEqProofs (disch := (refine id_ok ?_; first | assumption | omega | (simp only [go_sem, List.size_toArray, List.length_map, List.length_append, List.length_take, List.length_drop, List.length_cons, List.length_nil, mrLL_app, keyD_i, keyD_s, keyD_b, Nat.reduceAdd, Nat.reduceEqDiff, Nat.reduceLeDiff] <;> omega) | with_unfolding_all rfl | decide)) only [go_sem, Nat.reduceAdd, Nat.reduceSub, Nat.reduceMul, Nat.reduceLeDiff, Nat.reduceEqDiff, Nat.reduceBEq, reduceIte, reduceCtorEq, c_regencyref19_Right, hd, e1]
    simp [rightP, h1]

/-! counts -/
def cnt (l s d : Int) : Int := if rightP l s d then (l + s - 1) / s else 0
theorem cnt_spec {l s : Int} (h0 : 0 ≤ l) (h1 : 1 ≤ s) : 0 ≤ (l + s - 1) / s ∧ ((l + s - 1) / s - 1) * s < l ∧ l ≤ (l + s - 1) / s * s ∨ (l = 0 ∧ (l + s - 1) / s = 0) := by
  have e := Int.emod_add_mul_ediv (l + s - 1) s
  have r0 := Int.emod_nonneg (l + s - 1) (show s ≠ 0 by omega)
  have r1 := Int.emod_lt_of_pos (l + s - 1) (show 0 < s by omega)
  generalize (l + s - 1) / s = q at *
  generalize (l + s - 1) % s = r at *
  have hq0 : 0 ≤ q := by
    rcases Int.lt_or_le q 0 with hq | hq
    · have : s * q ≤ s * (-1) := Int.mul_le_mul_of_nonneg_left (by omega) (by omega)
      omega
    · exact hq
  have e2 : q * s = s * q := Int.mul_comm q s
  have e3 : (q - 1) * s = s * q - s := by rw [Int.sub_mul, e2]; omega
  by_cases hl : l = 0
  · right
    refine ⟨hl, ?_⟩
    rcases Int.lt_or_le 0 q with hq | hq
    · have : s * 1 ≤ s * q := Int.mul_le_mul_of_nonneg_left (by omega) (by omega)
      omega
    · omega
  · left
    exact ⟨hq0, by omega, by omega⟩
end Go.Proofs.Ytgmhbncbmpahjaa.L
