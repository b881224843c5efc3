/- Chunks: counts and lengths walked. -/
import Derived.Test.YtgmhbncbmpahjaaL10
set_option linter.all false
set_option maxRecDepth 100000
namespace Go.Proofs.Ytgmhbncbmpahjaa.L
open Go.Proofs.Ytgmhbncbmpahjaa.M Go.Proofs.Ytgmhbncbmpahjaa.F Go.Proofs

theorem cnt_right {l s d : Int} (hr : rightP l s d) : cnt l s d = (l + s - 1) / s := if_pos hr
theorem cnt_bound {l s d : Int} (hr : rightP l s d) : 0 ≤ (l + s - 1) / s ∧ (l + s - 1) / s ≤ l := by
  obtain ⟨h1, h2, h3, h4, h5⟩ := hr
  have hs := h3.1
  have e := Int.emod_add_mul_ediv (l + s - 1) s
  have r0 := Int.emod_nonneg (l + s - 1) (show s ≠ 0 by omega)
  have r1 := Int.emod_lt_of_pos (l + s - 1) (show 0 < s by omega)
  rcases cnt_spec h1 hs with ⟨q1, q2, q3⟩ | ⟨rfl, q2⟩
  · refine ⟨q1, ?_⟩
    generalize (l + s - 1) / s = q at *
    rcases Int.lt_or_le l q with hq | hq
    · have : (q - 1) * 1 ≤ (q - 1) * s := Int.mul_le_mul_of_nonneg_left (by omega) (by omega)
      omega
    · exact hq
  · rw [q2]; exact ⟨by omega, by omega⟩

theorem count_run {l s d : Int} {h : AH} : run T 18 [.agg (hd l s d)] h = some (.int .i64 (cnt l s d), h) := by
  rw [run_code T_18]
  by_cases hr : rightP l s d
  · have e1 : decide (rightP l s d) = true := decide_eq_true hr
    have hb := cnt_bound hr
    have hr' := hr
    obtain ⟨h1, h2, h3, h4, h5⟩ := hr
    have hs := h3.1
    have hs2 := h3.2
    have e2 : IntKind.i64.wrap (l + s) = l + s := w64 (by omega) (by omega)
    have e3 : IntKind.i64.wrap (l + s - 1) = l + s - 1 := w64 (by omega) (by omega)
    have e4 : (l + s - 1).tdiv s = (l + s - 1) / s := Int.tdiv_eq_ediv_of_nonneg (by omega)
    have e5 : IntKind.i64.wrap ((l + s - 1) / s) = (l + s - 1) / s := w64 (by omega) (by omega)
    have hz : s ≠ 0 := by omega
    simp -implicitDefEqProofs (disch := (refine id_ok ?_; first | assumption | omega | (simp only [go_sem, List.size_toArray, List.length_map, List.length_append, List.length_take, List.length_drop, List.length_cons, List.length_nil, mrLL_app, keyD_i, keyD_s, keyD_b, Nat.reduceAdd, Nat.reduceEqDiff, Nat.reduceLeDiff] <;> omega) | with_unfolding_all rfl | decide)) only [go_sem, Nat.reduceAdd, Nat.reduceSub, Nat.reduceMul, Nat.reduceLeDiff, Nat.reduceEqDiff, Nat.reduceBEq, reduceIte, reduceCtorEq, c_chunk_Count, hd, right_run, e1, e2, e3, e4, e5, hz]
    rw [cnt_right hr']
  · have e1 : decide (rightP l s d) = false := decide_eq_false hr
    simp -implicitDefEqProofs (disch := (refine id_ok ?_; first | assumption | omega | (simp only [go_sem, List.size_toArray, List.length_map, List.length_append, List.length_take, List.length_drop, List.length_cons, List.length_nil, mrLL_app, keyD_i, keyD_s, keyD_b, Nat.reduceAdd, Nat.reduceEqDiff, Nat.reduceLeDiff] <;> omega) | with_unfolding_all rfl | decide)) only [go_sem, Nat.reduceAdd, Nat.reduceSub, Nat.reduceMul, Nat.reduceLeDiff, Nat.reduceEqDiff, Nat.reduceBEq, reduceIte, reduceCtorEq, c_chunk_Count, hd, right_run, e1]
    rw [cnt, if_neg hr]

theorem div_cnt {l s : Int} (h0 : 0 ≤ l) (h1 : 1 ≤ s) : (l / s * s < l → (l + s - 1) / s = l / s + 1) ∧ (¬ l / s * s < l → (l + s - 1) / s = l / s) := by
  have e := Int.emod_add_mul_ediv l s
  have r0 := Int.emod_nonneg l (show s ≠ 0 by omega)
  have r1 := Int.emod_lt_of_pos l (show 0 < s by omega)
  have e2 : l / s * s = s * (l / s) := Int.mul_comm _ _
  have key : (l + s - 1) / s = (l % s + s - 1) / s + l / s := by
    have : l + s - 1 = (l % s + s - 1) + s * (l / s) := by omega
    rw [this, Int.add_mul_ediv_left _ _ (show s ≠ 0 by omega)]
  constructor
  · intro h
    have : (l % s + s - 1) / s = 1 := by
      have h3 : l % s + s - 1 = (l % s - 1) + s * 1 := by omega
      rw [h3, Int.add_mul_ediv_left _ _ (show s ≠ 0 by omega), Int.ediv_eq_zero_of_lt (by omega) (by omega)]; rfl
    omega
  · intro h
    have h0 : l % s = 0 := by omega
    have : (l % s + s - 1) / s = 0 := by rw [h0]; exact Int.ediv_eq_zero_of_lt (by omega) (by omega)
    omega

theorem rcount_run {l s d : Int} {h : AH} : run T 23 [.agg (hd l s d)] h = some (.int .i64 (cnt l s d), h) := by
  rw [run_code T_23]
  by_cases hr : rightP l s d
  · have e1 : decide (rightP l s d) = true := decide_eq_true hr
    have hb := cnt_bound hr
    have hr' := hr
    obtain ⟨h1, h2, h3, h4, h5⟩ := hr
    have hs := h3.1
    have hs2 := h3.2
    have hz : s ≠ 0 := by omega
    have q0 : 0 ≤ l / s := Int.ediv_nonneg h1 (by omega)
    have q1 : l / s ≤ l := Int.ediv_le_self _ h1
    have q2 : l / s * s ≤ l := Int.ediv_mul_le _ hz
    have q3 : 0 ≤ l / s * s := Int.mul_nonneg q0 (by omega)
    have e4 : l.tdiv s = l / s := Int.tdiv_eq_ediv_of_nonneg h1
    have e5 : IntKind.i64.wrap (l / s) = l / s := w64 (by omega) (by omega)
    have e6 : IntKind.i64.wrap (l / s * s) = l / s * s := w64 (by omega) (by omega)
    have e7 : IntKind.i64.wrap (l / s + 1) = l / s + 1 := w64 (by omega) (by omega)
    obtain ⟨d1, d2⟩ := div_cnt h1 hs
    by_cases hlt : l / s * s < l
    · have e8 : decide (l / s * s < l) = true := decide_eq_true hlt
      simp -implicitDefEqProofs (disch := (refine id_ok ?_; first | assumption | omega | (simp only [go_sem, List.size_toArray, List.length_map, List.length_append, List.length_take, List.length_drop, List.length_cons, List.length_nil, mrLL_app, keyD_i, keyD_s, keyD_b, Nat.reduceAdd, Nat.reduceEqDiff, Nat.reduceLeDiff] <;> omega) | with_unfolding_all rfl | decide)) only [go_sem, Nat.reduceAdd, Nat.reduceSub, Nat.reduceMul, Nat.reduceLeDiff, Nat.reduceEqDiff, Nat.reduceBEq, reduceIte, reduceCtorEq, c_regencyref19_Count, hd, rright_run, e1, e4, e5, e6, e7, e8, hz]
      rw [cnt_right hr', d1 hlt]
    · have e8 : decide (l / s * s < l) = false := decide_eq_false hlt
      simp -implicitDefEqProofs (disch := (refine id_ok ?_; first | assumption | omega | (simp only [go_sem, List.size_toArray, List.length_map, List.length_append, List.length_take, List.length_drop, List.length_cons, List.length_nil, mrLL_app, keyD_i, keyD_s, keyD_b, Nat.reduceAdd, Nat.reduceEqDiff, Nat.reduceLeDiff] <;> omega) | with_unfolding_all rfl | decide)) only [go_sem, Nat.reduceAdd, Nat.reduceSub, Nat.reduceMul, Nat.reduceLeDiff, Nat.reduceEqDiff, Nat.reduceBEq, reduceIte, reduceCtorEq, c_regencyref19_Count, hd, rright_run, e1, e4, e5, e6, e7, e8, hz]
      rw [cnt_right hr', d2 hlt]
  · have e1 : decide (rightP l s d) = false := decide_eq_false hr
    simp -implicitDefEqProofs (disch := (refine id_ok ?_; first | assumption | omega | (simp only [go_sem, List.size_toArray, List.length_map, List.length_append, List.length_take, List.length_drop, List.length_cons, List.length_nil, mrLL_app, keyD_i, keyD_s, keyD_b, Nat.reduceAdd, Nat.reduceEqDiff, Nat.reduceLeDiff] <;> omega) | with_unfolding_all rfl | decide)) only [go_sem, Nat.reduceAdd, Nat.reduceSub, Nat.reduceMul, Nat.reduceLeDiff, Nat.reduceEqDiff, Nat.reduceBEq, reduceIte, reduceCtorEq, c_regencyref19_Count, hd, rright_run, e1]
    rw [cnt, if_neg hr]

/-- The length of a chunk. -/
def clen (l s d i : Int) : Int := if 0 ≤ i ∧ i < cnt l s d then min s (l - i * s) else -1
theorem mul_bounds {l s d i : Int} (hi : 0 ≤ i ∧ i < cnt l s d) : rightP l s d ∧ 0 ≤ i * s ∧ i * s < l ∧ (i < cnt l s d - 1 → i * s + s < l) ∧ (i = cnt l s d - 1 → l ≤ i * s + s) := by
  by_cases hr : rightP l s d
  · rw [cnt_right hr] at *
    obtain ⟨h1, h2, h3, h4, h5⟩ := hr
    have hs := h3.1
    rcases cnt_spec h1 hs with ⟨q1, q2, q3⟩ | ⟨rfl, q2⟩
    · refine ⟨⟨h1, h2, h3, h4, h5⟩, Int.mul_nonneg hi.1 (by omega), ?_, ?_, ?_⟩
      all_goals
        generalize (l + s - 1) / s = q at *
      · have : i * s ≤ (q - 1) * s := Int.mul_le_mul_of_nonneg_right (by omega) (by omega)
        omega
      · intro hlt
        have : (i + 1) * s ≤ (q - 1) * s := Int.mul_le_mul_of_nonneg_right (by omega) (by omega)
        rw [Int.add_mul, Int.one_mul] at this; omega
      · intro he
        have : q * s = i * s + s := by rw [show q = i + 1 by omega, Int.add_mul, Int.one_mul]
        omega
    · omega
  · rw [cnt, if_neg hr] at hi; omega

theorem min_if (a b : Int) : (if b < a then b else a) = min a b := by omega
theorem length_run {l s d i : Int} {h : AH} : run T 20 [.agg (hd l s d), .int .i64 i] h = some (.int .i64 (clen l s d i), h) := by
  rw [run_code T_20]
  by_cases h0 : i < 0
  · have e1 : decide (i < 0) = true := decide_eq_true h0
    simp -implicitDefEqProofs (disch := (refine id_ok ?_; first | assumption | omega | (simp only [go_sem, List.size_toArray, List.length_map, List.length_append, List.length_take, List.length_drop, List.length_cons, List.length_nil, mrLL_app, keyD_i, keyD_s, keyD_b, Nat.reduceAdd, Nat.reduceEqDiff, Nat.reduceLeDiff] <;> omega) | with_unfolding_all rfl | decide)) only [go_sem, Nat.reduceAdd, Nat.reduceSub, Nat.reduceMul, Nat.reduceLeDiff, Nat.reduceEqDiff, Nat.reduceBEq, reduceIte, reduceCtorEq, c_chunk_Length, hd, e1]
    rw [clen, if_neg (by omega)]
  · have e1 : decide (i < 0) = false := decide_eq_false h0
    by_cases hc : cnt l s d ≤ i
    · have e2 : decide (cnt l s d ≤ i) = true := decide_eq_true hc
      simp -implicitDefEqProofs (disch := (refine id_ok ?_; first | assumption | omega | (simp only [go_sem, List.size_toArray, List.length_map, List.length_append, List.length_take, List.length_drop, List.length_cons, List.length_nil, mrLL_app, keyD_i, keyD_s, keyD_b, Nat.reduceAdd, Nat.reduceEqDiff, Nat.reduceLeDiff] <;> omega) | with_unfolding_all rfl | decide)) only [go_sem, Nat.reduceAdd, Nat.reduceSub, Nat.reduceMul, Nat.reduceLeDiff, Nat.reduceEqDiff, Nat.reduceBEq, reduceIte, reduceCtorEq, c_chunk_Length, hd, count_run, e1, e2]
      rw [clen, if_neg (by omega)]
    · have e2 : decide (cnt l s d ≤ i) = false := decide_eq_false hc
      obtain ⟨hr, m0, m1, m2, m3⟩ := mul_bounds (l := l) (s := s) (d := d) (i := i) ⟨by omega, by omega⟩
      obtain ⟨h1, h2, h3, h4, h5⟩ := hr
      have e3 : IntKind.i64.wrap (i * s) = i * s := w64 (by omega) (by omega)
      have e4 : IntKind.i64.wrap (l - i * s) = l - i * s := w64 (by omega) (by omega)
      simp -implicitDefEqProofs (disch := (refine id_ok ?_; first | assumption | omega | (simp only [go_sem, List.size_toArray, List.length_map, List.length_append, List.length_take, List.length_drop, List.length_cons, List.length_nil, mrLL_app, keyD_i, keyD_s, keyD_b, Nat.reduceAdd, Nat.reduceEqDiff, Nat.reduceLeDiff] <;> omega) | with_unfolding_all rfl | decide)) only [go_sem, Nat.reduceAdd, Nat.reduceSub, Nat.reduceMul, Nat.reduceLeDiff, Nat.reduceEqDiff, Nat.reduceBEq, reduceIte, reduceCtorEq, c_chunk_Length, hd, count_run, e1, e2, e3, e4, min_if]
      rw [clen, if_pos ⟨by omega, by omega⟩]

theorem rlength_run {l s d i : Int} {h : AH} : run T 24 [.agg (hd l s d), .int .i64 i] h = some (.int .i64 (clen l s d i), h) := by
  rw [run_code T_24]
  by_cases h0 : i < 0
  · have e1 : decide (i < 0) = true := decide_eq_true h0
    simp -implicitDefEqProofs (disch := (refine id_ok ?_; first | assumption | omega | (simp only [go_sem, List.size_toArray, List.length_map, List.length_append, List.length_take, List.length_drop, List.length_cons, List.length_nil, mrLL_app, keyD_i, keyD_s, keyD_b, Nat.reduceAdd, Nat.reduceEqDiff, Nat.reduceLeDiff] <;> omega) | with_unfolding_all rfl | decide)) only [go_sem, Nat.reduceAdd, Nat.reduceSub, Nat.reduceMul, Nat.reduceLeDiff, Nat.reduceEqDiff, Nat.reduceBEq, reduceIte, reduceCtorEq, c_regencyref19_Length, hd, rcount_run, e1]
    rw [clen, if_neg (by omega)]
  · have e1 : decide (i < 0) = false := decide_eq_false h0
    by_cases hc : cnt l s d ≤ i
    · have e2 : decide (cnt l s d ≤ i) = true := decide_eq_true hc
      simp -implicitDefEqProofs (disch := (refine id_ok ?_; first | assumption | omega | (simp only [go_sem, List.size_toArray, List.length_map, List.length_append, List.length_take, List.length_drop, List.length_cons, List.length_nil, mrLL_app, keyD_i, keyD_s, keyD_b, Nat.reduceAdd, Nat.reduceEqDiff, Nat.reduceLeDiff] <;> omega) | with_unfolding_all rfl | decide)) only [go_sem, Nat.reduceAdd, Nat.reduceSub, Nat.reduceMul, Nat.reduceLeDiff, Nat.reduceEqDiff, Nat.reduceBEq, reduceIte, reduceCtorEq, c_regencyref19_Length, hd, rcount_run, e1, e2]
      rw [clen, if_neg (by omega)]
    · have e2 : decide (cnt l s d ≤ i) = false := decide_eq_false hc
      obtain ⟨hr, m0, m1, m2, m3⟩ := mul_bounds (l := l) (s := s) (d := d) (i := i) ⟨by omega, by omega⟩
      have hb := cnt_bound hr
      have hcr := cnt_right hr
      obtain ⟨h1, h2, h3, h4, h5⟩ := hr
      have e5 : IntKind.i64.wrap (cnt l s d - 1) = cnt l s d - 1 := w64 (by omega) (by omega)
      by_cases hl : i < cnt l s d - 1
      · have e6 : decide (i < cnt l s d - 1) = true := decide_eq_true hl
        simp -implicitDefEqProofs (disch := (refine id_ok ?_; first | assumption | omega | (simp only [go_sem, List.size_toArray, List.length_map, List.length_append, List.length_take, List.length_drop, List.length_cons, List.length_nil, mrLL_app, keyD_i, keyD_s, keyD_b, Nat.reduceAdd, Nat.reduceEqDiff, Nat.reduceLeDiff] <;> omega) | with_unfolding_all rfl | decide)) only [go_sem, Nat.reduceAdd, Nat.reduceSub, Nat.reduceMul, Nat.reduceLeDiff, Nat.reduceEqDiff, Nat.reduceBEq, reduceIte, reduceCtorEq, c_regencyref19_Length, hd, rcount_run, e1, e2, e5, e6]
        rw [clen, if_pos ⟨by omega, by omega⟩]
        have := m2 hl; omega
      · have e6 : decide (i < cnt l s d - 1) = false := decide_eq_false hl
        have he : cnt l s d - 1 = i := by omega
        have e3 : IntKind.i64.wrap (i * s) = i * s := w64 (by omega) (by omega)
        have e4 : IntKind.i64.wrap (l - i * s) = l - i * s := w64 (by omega) (by omega)
        simp -implicitDefEqProofs (disch := (refine id_ok ?_; first | assumption | omega | (simp only [go_sem, List.size_toArray, List.length_map, List.length_append, List.length_take, List.length_drop, List.length_cons, List.length_nil, mrLL_app, keyD_i, keyD_s, keyD_b, Nat.reduceAdd, Nat.reduceEqDiff, Nat.reduceLeDiff] <;> omega) | with_unfolding_all rfl | decide)) only [go_sem, Nat.reduceAdd, Nat.reduceSub, Nat.reduceMul, Nat.reduceLeDiff, Nat.reduceEqDiff, Nat.reduceBEq, reduceIte, reduceCtorEq, c_regencyref19_Length, hd, rcount_run, e1, e2, e5, e6]
        simp -implicitDefEqProofs (disch := (refine id_ok ?_; first | assumption | omega | (simp only [go_sem, List.size_toArray, List.length_map, List.length_append, List.length_take, List.length_drop, List.length_cons, List.length_nil, mrLL_app, keyD_i, keyD_s, keyD_b, Nat.reduceAdd, Nat.reduceEqDiff, Nat.reduceLeDiff] <;> omega) | with_unfolding_all rfl | decide)) only [go_sem, Nat.reduceAdd, Nat.reduceSub, Nat.reduceMul, Nat.reduceLeDiff, Nat.reduceEqDiff, Nat.reduceBEq, reduceIte, reduceCtorEq, he, e3, e4]
        rw [clen, if_pos ⟨by omega, by omega⟩]
        have := m3 he.symm; omega
end Go.Proofs.Ytgmhbncbmpahjaa.L
