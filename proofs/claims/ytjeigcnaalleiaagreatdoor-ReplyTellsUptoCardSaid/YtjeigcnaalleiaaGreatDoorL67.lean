/- ReplyTells: the document's comparison; what the law's function comes to. -/
import Derived.Test.YtjeigcnaalleiaaGreatDoorL65
import Derived.Test.YtjeigcnaalleiaaGreatDoorL45
import Derived.Test.YtjeigcnaalleiaaGreatDoorL57
set_option linter.all false
set_option maxRecDepth 100000
namespace Go.Proofs.YtjeigcnaalleiaaGreatDoor.L
open Go.Proofs.YtjeigcnaalleiaaGreatDoor.M Go.Proofs.YtjeigcnaalleiaaGreatDoor.F Go.Proofs

theorem s6g_loop {a b : List Ent} {h : AH} (hl : a.length = b.length) (hs : a.length ≤ 1000000000) : ∀ (d i : Nat), d + i = a.length →
    (decide (a.drop i = b.drop i) = true ∧ den T (.loop l_regencyref06_Same_0) (s_regencyref06_Same_0 (.sl .sh (a.map encE)) (.sl .sh (b.map encE)) (.int .i64 a.length) (.int .i64 i)) h = some (.exit 0, x_regencyref06_Same_0, h)) ∨
    (decide (a.drop i = b.drop i) = false ∧ ∃ σ, den T (.loop l_regencyref06_Same_0) (s_regencyref06_Same_0 (.sl .sh (a.map encE)) (.sl .sh (b.map encE)) (.int .i64 a.length) (.int .i64 i)) h = some (.ret, σ, h) ∧ σ.getD 4 undefA = .bool false) := by
  intro d
  induction d with
  | zero =>
    intro i hd
    have hd' : decide ((i : Int) < a.length) = false := decide_eq_false (by omega)
    refine .inl ⟨by rw [List.drop_eq_nil_of_le (by omega), List.drop_eq_nil_of_le (by omega)]; rfl, ?_⟩
    rw [lp_round]
    simp -implicitDefEqProofs (disch := (refine id_ok ?_; first | assumption | omega | (simp only [go_sem, List.size_toArray, List.length_map, List.length_append, List.length_take, List.length_drop, List.length_cons, List.length_nil, mrLL_app, keyD_i, keyD_s, keyD_b, Nat.reduceAdd, Nat.reduceEqDiff, Nat.reduceLeDiff] <;> omega) | with_unfolding_all rfl | decide)) only [go_sem, Nat.reduceAdd, Nat.reduceSub, Nat.reduceMul, Nat.reduceLeDiff, Nat.reduceEqDiff, Nat.reduceBEq, reduceIte, reduceCtorEq, hd']
  | succ d ih =>
    intro i hd
    have hia : i < a.length := by omega
    have hib : i < b.length := by omega
    have hd' : decide ((i : Int) < a.length) = true := decide_eq_true (by omega)
    have ga : (a.map encE)[(i : Int).toNat]? = some (encE a[i]) := by simp [hia]
    have gb : (b.map encE)[(i : Int).toNat]? = some (encE b[i]) := by simp [hib]
    have e7 := incN (n := i) (by omega)
    have ih' := ih (i + 1) (by omega)
    have hq := eqE_dec a[i] b[i]
    have hdr := drop_dec hia hib
    generalize a[i] = x at *
    generalize b[i] = y at *
    rw [hdr]
    by_cases hxy : x = y
    · have hx : decide (x = y) = true := decide_eq_true hxy
      rw [hx] at hq
      have hstep : den T (.loop l_regencyref06_Same_0) (s_regencyref06_Same_0 (.sl .sh (a.map encE)) (.sl .sh (b.map encE)) (.int .i64 a.length) (.int .i64 i)) h = den T (.loop l_regencyref06_Same_0) (s_regencyref06_Same_0 (.sl .sh (a.map encE)) (.sl .sh (b.map encE)) (.int .i64 a.length) (.int .i64 (i + 1 : Nat))) h := by
        simp only [encE] at ga gb hq
        rw [lp_round]
        simp (maxSteps := 2000000) -implicitDefEqProofs (disch := (refine id_ok ?_; first | assumption | omega | (simp only [go_sem, List.size_toArray, List.length_map, List.length_append, List.length_take, List.length_drop, List.length_cons, List.length_nil, mrLL_app, keyD_i, keyD_s, keyD_b, Nat.reduceAdd, Nat.reduceEqDiff, Nat.reduceLeDiff] <;> omega) | with_unfolding_all rfl | decide)) only [go_sem, Nat.reduceAdd, Nat.reduceSub, Nat.reduceMul, Nat.reduceLeDiff, Nat.reduceEqDiff, Nat.reduceBEq, reduceIte, reduceCtorEq, hd', ga, gb, hq, e7]
        try rfl
      rw [hstep, hx, Bool.true_and]
      exact ih'
    · have hx : decide (x = y) = false := decide_eq_false hxy
      rw [hx] at hq
      refine .inr ⟨by rw [hx, Bool.false_and], ?_⟩
      simp only [encE] at ga gb hq
      rw [lp_round]
      simp (maxSteps := 2000000) -implicitDefEqProofs (disch := (refine id_ok ?_; first | assumption | omega | (simp only [go_sem, List.size_toArray, List.length_map, List.length_append, List.length_take, List.length_drop, List.length_cons, List.length_nil, mrLL_app, keyD_i, keyD_s, keyD_b, Nat.reduceAdd, Nat.reduceEqDiff, Nat.reduceLeDiff] <;> omega) | with_unfolding_all rfl | decide)) only [go_sem, Nat.reduceAdd, Nat.reduceSub, Nat.reduceMul, Nat.reduceLeDiff, Nat.reduceEqDiff, Nat.reduceBEq, reduceIte, reduceCtorEq, hd', ga, gb, hq]
      exact ⟨_, rfl, rfl⟩
theorem s6g_run {a b : List Ent} {h : AH} (ha : a.length ≤ 1000000000) : run T 38 [.sl .sh (a.map encE), .sl .sh (b.map encE)] h = some (.bool (decide (a = b)), h) := by
  rw [run_code T_38]
  by_cases hl : a.length = b.length
  · have hq : ((a.length : Int) != (b.length : Int)) = false := by simp [hl]
    rcases s6g_loop (h := h) hl ha a.length 0 (by omega) with ⟨h1, h2⟩ | ⟨h1, σ, h2, h3⟩
    · simp only [show ((0 : Nat) : Int) = 0 from rfl, List.drop_zero] at h1 h2
      simp (maxSteps := 2000000) -implicitDefEqProofs (disch := (refine id_ok ?_; first | assumption | omega | (simp only [go_sem, List.size_toArray, List.length_map, List.length_append, List.length_take, List.length_drop, List.length_cons, List.length_nil, mrLL_app, keyD_i, keyD_s, keyD_b, Nat.reduceAdd, Nat.reduceEqDiff, Nat.reduceLeDiff] <;> omega) | with_unfolding_all rfl | decide)) only [go_sem, Nat.reduceAdd, Nat.reduceSub, Nat.reduceMul, Nat.reduceLeDiff, Nat.reduceEqDiff, Nat.reduceBEq, reduceIte, reduceCtorEq, c_regencyref06_Same, List.length_map, hq, h2, h1]
    · simp only [show ((0 : Nat) : Int) = 0 from rfl, List.drop_zero] at h1 h2
      simp (maxSteps := 2000000) -implicitDefEqProofs (disch := (refine id_ok ?_; first | assumption | omega | (simp only [go_sem, List.size_toArray, List.length_map, List.length_append, List.length_take, List.length_drop, List.length_cons, List.length_nil, mrLL_app, keyD_i, keyD_s, keyD_b, Nat.reduceAdd, Nat.reduceEqDiff, Nat.reduceLeDiff] <;> omega) | with_unfolding_all rfl | decide)) only [go_sem, Nat.reduceAdd, Nat.reduceSub, Nat.reduceMul, Nat.reduceLeDiff, Nat.reduceEqDiff, Nat.reduceBEq, reduceIte, reduceCtorEq, c_regencyref06_Same, List.length_map, hq, h2, h1, h3]
  · have hq : ((a.length : Int) != (b.length : Int)) = true := by simp; omega
    have hne : decide (a = b) = false := decide_eq_false fun e => hl (by rw [e])
    simp (maxSteps := 2000000) -implicitDefEqProofs (disch := (refine id_ok ?_; first | assumption | omega | (simp only [go_sem, List.size_toArray, List.length_map, List.length_append, List.length_take, List.length_drop, List.length_cons, List.length_nil, mrLL_app, keyD_i, keyD_s, keyD_b, Nat.reduceAdd, Nat.reduceEqDiff, Nat.reduceLeDiff] <;> omega) | with_unfolding_all rfl | decide)) only [go_sem, Nat.reduceAdd, Nat.reduceSub, Nat.reduceMul, Nat.reduceLeDiff, Nat.reduceEqDiff, Nat.reduceBEq, reduceIte, reduceCtorEq, c_regencyref06_Same, List.length_map, hq, hne]
set_option maxHeartbeats 4000000 in
theorem smg_loop {a b : Rep} (hl : a.kids.length = b.kids.length) (hs : a.kids.length ≤ 1000000000) : ∀ (d i : Nat), d + i = a.kids.length →
    (decide (a.kids.drop i = b.kids.drop i) = true ∧ den T (.loop l_regencyref12_Same_0) (s_regencyref12_Same_0 (.box 0 0) (.box 1 0) (.int .i64 a.kids.length) (.int .i64 i)) [.cells (encR a), .cells (encR b)] = some (.exit 0, x_regencyref12_Same_0, [.cells (encR a), .cells (encR b)])) ∨
    (decide (a.kids.drop i = b.kids.drop i) = false ∧ ∃ σ, den T (.loop l_regencyref12_Same_0) (s_regencyref12_Same_0 (.box 0 0) (.box 1 0) (.int .i64 a.kids.length) (.int .i64 i)) [.cells (encR a), .cells (encR b)] = some (.ret, σ, [.cells (encR a), .cells (encR b)]) ∧ σ.getD 4 undefA = .bool false) := by
  intro d
  induction d with
  | zero =>
    intro i hd
    have hd' : decide ((i : Int) < a.kids.length) = false := decide_eq_false (by omega)
    refine .inl ⟨by rw [List.drop_eq_nil_of_le (by omega), List.drop_eq_nil_of_le (by omega)]; rfl, ?_⟩
    rw [lp_round]
    simp -implicitDefEqProofs (disch := (refine id_ok ?_; first | assumption | omega | (simp only [go_sem, List.size_toArray, List.length_map, List.length_append, List.length_take, List.length_drop, List.length_cons, List.length_nil, mrLL_app, keyD_i, keyD_s, keyD_b, Nat.reduceAdd, Nat.reduceEqDiff, Nat.reduceLeDiff] <;> omega) | with_unfolding_all rfl | decide)) only [go_sem, Nat.reduceAdd, Nat.reduceSub, Nat.reduceMul, Nat.reduceLeDiff, Nat.reduceEqDiff, Nat.reduceBEq, reduceIte, reduceCtorEq, hd']
  | succ d ih =>
    intro i hd
    have hia : i < a.kids.length := by omega
    have hib : i < b.kids.length := by omega
    have hd' : decide ((i : Int) < a.kids.length) = true := decide_eq_true (by omega)
    have ga : (a.kids.map encK)[(i : Int).toNat]? = some (encK a.kids[i]) := by simp [hia]
    have gb : (b.kids.map encK)[(i : Int).toNat]? = some (encK b.kids[i]) := by simp [hib]
    have e7 := incN (n := i) (by omega)
    have ih' := ih (i + 1) (by omega)
    have hq := eqK_dec a.kids[i] b.kids[i]
    have hdr := drop_dec hia hib
    generalize a.kids[i] = x at *
    generalize b.kids[i] = y at *
    rw [hdr]
    by_cases hxy : x = y
    · have hx : decide (x = y) = true := decide_eq_true hxy
      rw [hx] at hq
      have hstep : den T (.loop l_regencyref12_Same_0) (s_regencyref12_Same_0 (.box 0 0) (.box 1 0) (.int .i64 a.kids.length) (.int .i64 i)) [.cells (encR a), .cells (encR b)] = den T (.loop l_regencyref12_Same_0) (s_regencyref12_Same_0 (.box 0 0) (.box 1 0) (.int .i64 a.kids.length) (.int .i64 (i + 1 : Nat))) [.cells (encR a), .cells (encR b)] := by
        simp only [encK] at ga gb hq
        simp only [encR]
        rw [lp_round]
        simp (maxSteps := 2000000) -implicitDefEqProofs (disch := (refine id_ok ?_; first | assumption | omega | (simp only [go_sem, List.size_toArray, List.length_map, List.length_append, List.length_take, List.length_drop, List.length_cons, List.length_nil, mrLL_app, keyD_i, keyD_s, keyD_b, Nat.reduceAdd, Nat.reduceEqDiff, Nat.reduceLeDiff] <;> omega) | with_unfolding_all rfl | decide)) only [go_sem, Nat.reduceAdd, Nat.reduceSub, Nat.reduceMul, Nat.reduceLeDiff, Nat.reduceEqDiff, Nat.reduceBEq, reduceIte, reduceCtorEq, hd', ga, gb, hq, e7]
        try rfl
      rw [hstep, hx, Bool.true_and]
      exact ih'
    · have hx : decide (x = y) = false := decide_eq_false hxy
      rw [hx] at hq
      refine .inr ⟨by rw [hx, Bool.false_and], ?_⟩
      simp only [encK] at ga gb hq
      simp only [encR]
      rw [lp_round]
      simp (maxSteps := 2000000) -implicitDefEqProofs (disch := (refine id_ok ?_; first | assumption | omega | (simp only [go_sem, List.size_toArray, List.length_map, List.length_append, List.length_take, List.length_drop, List.length_cons, List.length_nil, mrLL_app, keyD_i, keyD_s, keyD_b, Nat.reduceAdd, Nat.reduceEqDiff, Nat.reduceLeDiff] <;> omega) | with_unfolding_all rfl | decide)) only [go_sem, Nat.reduceAdd, Nat.reduceSub, Nat.reduceMul, Nat.reduceLeDiff, Nat.reduceEqDiff, Nat.reduceBEq, reduceIte, reduceCtorEq, hd', ga, gb, hq]
      exact ⟨_, rfl, rfl⟩
set_option maxHeartbeats 8000000 in
theorem smg_run {a b : Rep} (ha : a.label.length ≤ 1000000000) (hk : a.kids.length ≤ 1000000000) : run T 16 [.agg (encR a), .agg (encR b)] [] = some (.bool (samR a b), []) := by
  have h2 := fun h => s6g_run (b := b.label) (h := h) ha
  have h3 := lbU a.text b.text
  have h4 := lbU a.cat b.cat
  have hs : samR a b = (a.e == b.e && (a.n == b.n && (decide (a.text = b.text) && (decide (a.cat = b.cat) && (decide (a.label = b.label) && decide (a.kids = b.kids)))))) := rfl
  have hnk : a.kids.length ≠ b.kids.length → decide (a.kids = b.kids) = false := fun h => decide_eq_false fun e => h (by rw [e])
  have hlp := fun hl => smg_loop (a := a) (b := b) hl hk a.kids.length 0 (by omega)
  simp only [List.drop_zero, show ((0 : Nat) : Int) = 0 from rfl] at hlp
  rw [run_code T_16, hs]
  generalize decide (a.text = b.text) = c3 at *
  generalize decide (a.cat = b.cat) = c4 at *
  generalize decide (a.label = b.label) = c5 at *
  generalize decide (a.kids = b.kids) = c6 at *
  cases c1 : a.e == b.e
  · have d1 : (a.e != b.e) = true := by simp only [bne, c1]; rfl
    simp (maxSteps := 2000000) -implicitDefEqProofs (disch := (refine id_ok ?_; first | assumption | omega | (simp only [go_sem, List.size_toArray, List.length_map, List.length_append, List.length_take, List.length_drop, List.length_cons, List.length_nil, mrLL_app, keyD_i, keyD_s, keyD_b, Nat.reduceAdd, Nat.reduceEqDiff, Nat.reduceLeDiff] <;> omega) | with_unfolding_all rfl | decide)) only [go_sem, Nat.reduceAdd, Nat.reduceSub, Nat.reduceMul, Nat.reduceLeDiff, Nat.reduceEqDiff, Nat.reduceBEq, reduceIte, reduceCtorEq, c_regencyref12_Same, encR, d1, Bool.false_and]
  have d1 : (a.e != b.e) = false := by simp only [bne, c1]; rfl
  cases c2 : a.n == b.n
  · have d2 : (a.n != b.n) = true := by simp only [bne, c2]; rfl
    simp (maxSteps := 2000000) -implicitDefEqProofs (disch := (refine id_ok ?_; first | assumption | omega | (simp only [go_sem, List.size_toArray, List.length_map, List.length_append, List.length_take, List.length_drop, List.length_cons, List.length_nil, mrLL_app, keyD_i, keyD_s, keyD_b, Nat.reduceAdd, Nat.reduceEqDiff, Nat.reduceLeDiff] <;> omega) | with_unfolding_all rfl | decide)) only [go_sem, Nat.reduceAdd, Nat.reduceSub, Nat.reduceMul, Nat.reduceLeDiff, Nat.reduceEqDiff, Nat.reduceBEq, reduceIte, reduceCtorEq, c_regencyref12_Same, encR, d1, d2, Bool.false_and]
  have d2 : (a.n != b.n) = false := by simp only [bne, c2]; rfl
  cases c3
  · simp (maxSteps := 2000000) -implicitDefEqProofs (disch := (refine id_ok ?_; first | assumption | omega | (simp only [go_sem, List.size_toArray, List.length_map, List.length_append, List.length_take, List.length_drop, List.length_cons, List.length_nil, mrLL_app, keyD_i, keyD_s, keyD_b, Nat.reduceAdd, Nat.reduceEqDiff, Nat.reduceLeDiff] <;> omega) | with_unfolding_all rfl | decide)) only [go_sem, Nat.reduceAdd, Nat.reduceSub, Nat.reduceMul, Nat.reduceLeDiff, Nat.reduceEqDiff, Nat.reduceBEq, reduceIte, reduceCtorEq, c_regencyref12_Same, encR, d1, d2, h3, Bool.false_and]
  cases c4
  · simp (maxSteps := 2000000) -implicitDefEqProofs (disch := (refine id_ok ?_; first | assumption | omega | (simp only [go_sem, List.size_toArray, List.length_map, List.length_append, List.length_take, List.length_drop, List.length_cons, List.length_nil, mrLL_app, keyD_i, keyD_s, keyD_b, Nat.reduceAdd, Nat.reduceEqDiff, Nat.reduceLeDiff] <;> omega) | with_unfolding_all rfl | decide)) only [go_sem, Nat.reduceAdd, Nat.reduceSub, Nat.reduceMul, Nat.reduceLeDiff, Nat.reduceEqDiff, Nat.reduceBEq, reduceIte, reduceCtorEq, c_regencyref12_Same, encR, d1, d2, h3, h4, Bool.false_and]
  cases c5
  · simp (maxSteps := 2000000) -implicitDefEqProofs (disch := (refine id_ok ?_; first | assumption | omega | (simp only [go_sem, List.size_toArray, List.length_map, List.length_append, List.length_take, List.length_drop, List.length_cons, List.length_nil, mrLL_app, keyD_i, keyD_s, keyD_b, Nat.reduceAdd, Nat.reduceEqDiff, Nat.reduceLeDiff] <;> omega) | with_unfolding_all rfl | decide)) only [go_sem, Nat.reduceAdd, Nat.reduceSub, Nat.reduceMul, Nat.reduceLeDiff, Nat.reduceEqDiff, Nat.reduceBEq, reduceIte, reduceCtorEq, c_regencyref12_Same, encR, d1, d2, h3, h4, h2, Bool.false_and]
  by_cases hl : a.kids.length = b.kids.length
  · have d5 : ((a.kids.length : Int) != (b.kids.length : Int)) = false := by simp [hl]
    rcases hlp hl with ⟨q1, q2⟩ | ⟨q1, σ, q2, q3⟩
    · rw [q1]
      simp only [encR] at q2
      simp (maxSteps := 2000000) -implicitDefEqProofs (disch := (refine id_ok ?_; first | assumption | omega | (simp only [go_sem, List.size_toArray, List.length_map, List.length_append, List.length_take, List.length_drop, List.length_cons, List.length_nil, mrLL_app, keyD_i, keyD_s, keyD_b, Nat.reduceAdd, Nat.reduceEqDiff, Nat.reduceLeDiff] <;> omega) | with_unfolding_all rfl | decide)) only [go_sem, Nat.reduceAdd, Nat.reduceSub, Nat.reduceMul, Nat.reduceLeDiff, Nat.reduceEqDiff, Nat.reduceBEq, reduceIte, reduceCtorEq, c_regencyref12_Same, encR, d1, d2, h3, h4, h2, List.length_map, d5, q2, Bool.true_and]
    · rw [q1]
      simp only [encR] at q2
      simp (maxSteps := 2000000) -implicitDefEqProofs (disch := (refine id_ok ?_; first | assumption | omega | (simp only [go_sem, List.size_toArray, List.length_map, List.length_append, List.length_take, List.length_drop, List.length_cons, List.length_nil, mrLL_app, keyD_i, keyD_s, keyD_b, Nat.reduceAdd, Nat.reduceEqDiff, Nat.reduceLeDiff] <;> omega) | with_unfolding_all rfl | decide)) only [go_sem, Nat.reduceAdd, Nat.reduceSub, Nat.reduceMul, Nat.reduceLeDiff, Nat.reduceEqDiff, Nat.reduceBEq, reduceIte, reduceCtorEq, c_regencyref12_Same, encR, d1, d2, h3, h4, h2, List.length_map, d5, q2, q3, Bool.and_false]
  · have d5 : ((a.kids.length : Int) != (b.kids.length : Int)) = true := by simp; omega
    rw [hnk hl]
    simp (maxSteps := 2000000) -implicitDefEqProofs (disch := (refine id_ok ?_; first | assumption | omega | (simp only [go_sem, List.size_toArray, List.length_map, List.length_append, List.length_take, List.length_drop, List.length_cons, List.length_nil, mrLL_app, keyD_i, keyD_s, keyD_b, Nat.reduceAdd, Nat.reduceEqDiff, Nat.reduceLeDiff] <;> omega) | with_unfolding_all rfl | decide)) only [go_sem, Nat.reduceAdd, Nat.reduceSub, Nat.reduceMul, Nat.reduceLeDiff, Nat.reduceEqDiff, Nat.reduceBEq, reduceIte, reduceCtorEq, c_regencyref12_Same, encR, d1, d2, h3, h4, h2, List.length_map, d5, Bool.and_false]
def refused (e : Int) : Rep := ⟨e, 0, [], [], [], []⟩
theorem refused_run {e : Int} : run T 30 [.int .i64 e] [] = some (.agg (encR (refused e)), []) := by
  rw [run_code T_30]
  simp (maxSteps := 2000000) -implicitDefEqProofs (disch := (refine id_ok ?_; first | assumption | omega | (simp only [go_sem, List.size_toArray, List.length_map, List.length_append, List.length_take, List.length_drop, List.length_cons, List.length_nil, mrLL_app, keyD_i, keyD_s, keyD_b, Nat.reduceAdd, Nat.reduceEqDiff, Nat.reduceLeDiff] <;> omega) | with_unfolding_all rfl | decide)) only [go_sem, Nat.reduceAdd, Nat.reduceSub, Nat.reduceMul, Nat.reduceLeDiff, Nat.reduceEqDiff, Nat.reduceBEq, reduceIte, reduceCtorEq, c_reply_Refused, encR, refused, List.map_nil]
  try rfl
end Go.Proofs.YtjeigcnaalleiaaGreatDoor.L

/- ReplyTells: what its function comes to. -/
set_option linter.all false
set_option maxRecDepth 100000
namespace Go.Proofs.YtjeigcnaalleiaaGreatDoor.L
open Go.Proofs.YtjeigcnaalleiaaGreatDoor.M Go.Proofs.YtjeigcnaalleiaaGreatDoor.F Go.Proofs

/-- What a reply that was read is bound by. -/
structure inR (r : Rep) : Prop where
  e : i64 r.e
  n : i64 r.n
  ents : ∀ e ∈ r.label, okE e
  kid : ∀ k ∈ r.kids, okK k
set_option maxHeartbeats 16000000 in
theorem tells_run {a b : Rep} (hi : inR a) : run T 5 [.agg (encR a), .agg (encR b)] [] = some (.bool true, []) := by
  have h1 := first12
  have g1 := grtR_run (r := a)
  have g2 := grtR_run (r := b)
  rw [run_code T_5]
  cases hga : grtR a with
  | true =>
    rw [hga] at g1
    simp only [encR] at g1 ⊢
    simp (maxSteps := 2000000) -implicitDefEqProofs (disch := (refine id_ok ?_; first | assumption | omega | (simp only [go_sem, List.size_toArray, List.length_map, List.length_append, List.length_take, List.length_drop, List.length_cons, List.length_nil, mrLL_app, keyD_i, keyD_s, keyD_b, Nat.reduceAdd, Nat.reduceEqDiff, Nat.reduceLeDiff] <;> omega) | with_unfolding_all rfl | decide)) only [go_sem, Nat.reduceAdd, Nat.reduceSub, Nat.reduceMul, Nat.reduceLeDiff, Nat.reduceEqDiff, Nat.reduceBEq, reduceIte, reduceCtorEq, c_regencylaw12_ReplyTells, encR, h1, g1]
  | false =>
    rw [hga] at g1
    cases hgb : grtR b with
    | true =>
      rw [hgb] at g2
      simp only [encR] at g1 g2 ⊢
      simp (maxSteps := 2000000) -implicitDefEqProofs (disch := (refine id_ok ?_; first | assumption | omega | (simp only [go_sem, List.size_toArray, List.length_map, List.length_append, List.length_take, List.length_drop, List.length_cons, List.length_nil, mrLL_app, keyD_i, keyD_s, keyD_b, Nat.reduceAdd, Nat.reduceEqDiff, Nat.reduceLeDiff] <;> omega) | with_unfolding_all rfl | decide)) only [go_sem, Nat.reduceAdd, Nat.reduceSub, Nat.reduceMul, Nat.reduceLeDiff, Nat.reduceEqDiff, Nat.reduceBEq, reduceIte, reduceCtorEq, c_regencylaw12_ReplyTells, encR, h1, g1, g2]
    | false =>
      rw [hgb] at g2
      have hll : a.text.length ≤ 600 ∧ a.cat.length ≤ 100 ∧ a.label.length ≤ 30 ∧ a.kids.length ≤ 60 := by
        simp only [grtR, Bool.or_eq_false_iff, decide_eq_false_iff_not] at hga
        omega
      obtain ⟨l1, l2, l3, l4⟩ := hll
      have hT : okX a := ⟨hi.e, hi.n, by omega, by omega, by omega, hi.ents, by omega, hi.kid⟩
      have hR : okR a := ⟨by omega, by omega, fun e he => by have := (hi.ents e he).1; omega⟩
      have q1 := rrigR_run (r := a) (by omega) (by omega) (fun e he => by have := (hi.ents e he).1; omega)
      have q2 := rigR_run hR.1 hR.2.1 hR.2.2
      have q3 := bytR_run hR
      have q4 := tel_run hT
      have q5 := telF_run hT
      have q6 := samR_run (a := a) (b := b) (h := []) (by omega) (by omega)
      have q7 := smg_run (a := a) (b := b) (by omega) (by omega)
      have q8 := samR_run (a := a) (b := a) (h := []) (by omega) (by omega)
      have q9 := refused_run (e := a.e)
      have q10 := smg_run (a := refused a.e) (b := refused a.e) (by simp [refused]) (by simp [refused])
      rw [samR_self] at q8 q10
      rw [telF_telR] at q5
      simp only [refused, encR, List.map_nil] at q9 q10
      cases hr : rigR a with
      | true =>
        rw [hr] at q1 q2
        have q11 := rb_run hr
        rw [show bytR a = byR a by unfold bytR; rw [if_pos hr]] at q3
        simp only [encR] at g1 g2 q1 q2 q3 q4 q5 q6 q7 q8 q11 ⊢
        simp (maxSteps := 4000000) -implicitDefEqProofs (disch := (refine id_ok ?_; first | assumption | omega | (simp only [go_sem, List.size_toArray, List.length_map, List.length_append, List.length_take, List.length_drop, List.length_cons, List.length_nil, mrLL_app, keyD_i, keyD_s, keyD_b, Nat.reduceAdd, Nat.reduceEqDiff, Nat.reduceLeDiff] <;> omega) | with_unfolding_all rfl | decide)) only [go_sem, Nat.reduceAdd, Nat.reduceSub, Nat.reduceMul, Nat.reduceLeDiff, Nat.reduceEqDiff, Nat.reduceBEq, reduceIte, reduceCtorEq, c_regencylaw12_ReplyTells, encR, h1, g1, g2, q1, q2, q3, q4, q5, q6, q7, q8, q9, q10, q11, List.map_nil]
      | false =>
        rw [hr] at q1 q2
        rw [show bytR a = [] by unfold bytR; rw [hr]; rfl] at q3
        have hb0 : bytesV (ow []) = some (.str ⟨#[]⟩) := rfl
        simp only [encR] at g1 g2 q1 q2 q3 q4 q5 q6 q7 q8 ⊢
        simp (maxSteps := 4000000) -implicitDefEqProofs (disch := (refine id_ok ?_; first | assumption | omega | (simp only [go_sem, List.size_toArray, List.length_map, List.length_append, List.length_take, List.length_drop, List.length_cons, List.length_nil, mrLL_app, keyD_i, keyD_s, keyD_b, Nat.reduceAdd, Nat.reduceEqDiff, Nat.reduceLeDiff] <;> omega) | with_unfolding_all rfl | decide)) only [go_sem, Nat.reduceAdd, Nat.reduceSub, Nat.reduceMul, Nat.reduceLeDiff, Nat.reduceEqDiff, Nat.reduceBEq, reduceIte, reduceCtorEq, c_regencylaw12_ReplyTells, encR, h1, g1, g2, q1, q2, q3, q4, q5, q6, q7, q8, q9, q10, hb0, List.map_nil]
end Go.Proofs.YtjeigcnaalleiaaGreatDoor.L
