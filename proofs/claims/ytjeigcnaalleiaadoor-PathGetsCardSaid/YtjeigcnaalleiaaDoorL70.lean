/- Paths: which are right, parents, children, order; comparisons. -/
import Derived.Test.YtjeigcnaalleiaaDoorL22
set_option linter.all false
set_option maxRecDepth 100000
namespace Go.Proofs.YtjeigcnaalleiaaDoor.L
open Go.Proofs.YtjeigcnaalleiaaDoor.M Go.Proofs.YtjeigcnaalleiaaDoor.F Go.Proofs

theorem incP {n : Nat} (h : n ≤ 9223372036854775806) : IntKind.i64.wrap ((n : Int) + 1) = ((n + 1 : Nat) : Int) := by rw [w64 (by omega) (by omega)]; rfl
theorem decZ_I : ∀ (l : List Int), decZ (l.map encI) = some l
  | [] => rfl
  | a :: l => by
    show (decZ (l.map encI)).map (a :: ·) = _
    rw [decZ_I l]; rfl
theorem ptx_run {l : List Int} {h : AH} (hl : l.length ≤ 1000000) (hr : inI l = true) : run T 17 [.sl .sh (l.map encI)] h = some (.str ⟨(dotT l).toArray⟩, h) := by
  rw [run_prim T_17]
  unfold ptextP
  simp only [decZ_I]
  rw [if_pos ⟨hl, hr⟩]
/-! ### right paths -/
def okN (n : Int) : Bool := decide (n ≥ 0) && decide (n ≤ 1048576)
theorem okN_iff {n : Int} : okN n = true ↔ 0 ≤ n ∧ n ≤ 1048576 := by simp [okN]
theorem num_run {n : Int} {h : AH} : run T 41 [.int .i64 n] h = some (.bool (okN n), h) := by
  rw [run_code T_41]
  unfold okN
  cases e1 : decide (n ≥ 0)
  · simp -implicitDefEqProofs (disch := (refine id_ok ?_; first | assumption | omega | (simp only [go_sem, List.size_toArray, List.length_map, List.length_append, List.length_take, List.length_drop, List.length_cons, List.length_nil, mrLL_app, keyD_i, keyD_s, keyD_b, Nat.reduceAdd, Nat.reduceEqDiff, Nat.reduceLeDiff] <;> omega) | with_unfolding_all rfl | decide)) only [go_sem, Nat.reduceAdd, Nat.reduceSub, Nat.reduceMul, Nat.reduceLeDiff, Nat.reduceEqDiff, Nat.reduceBEq, reduceIte, reduceCtorEq, c_path_number, e1, Bool.false_and]
  · simp -implicitDefEqProofs (disch := (refine id_ok ?_; first | assumption | omega | (simp only [go_sem, List.size_toArray, List.length_map, List.length_append, List.length_take, List.length_drop, List.length_cons, List.length_nil, mrLL_app, keyD_i, keyD_s, keyD_b, Nat.reduceAdd, Nat.reduceEqDiff, Nat.reduceLeDiff] <;> omega) | with_unfolding_all rfl | decide)) only [go_sem, Nat.reduceAdd, Nat.reduceSub, Nat.reduceMul, Nat.reduceLeDiff, Nat.reduceEqDiff, Nat.reduceBEq, reduceIte, reduceCtorEq, c_path_number, e1, Bool.true_and]
theorem bad_run {n : Int} {h : AH} : run T 40 [.int .i64 n] h = some (.bool (!okN n), h) := by
  have h1 := num_run (n := n) (h := [])
  rw [run_code T_40]
  simp -implicitDefEqProofs (disch := (refine id_ok ?_; first | assumption | omega | (simp only [go_sem, List.size_toArray, List.length_map, List.length_append, List.length_take, List.length_drop, List.length_cons, List.length_nil, mrLL_app, keyD_i, keyD_s, keyD_b, Nat.reduceAdd, Nat.reduceEqDiff, Nat.reduceLeDiff] <;> omega) | with_unfolding_all rfl | decide)) only [go_sem, Nat.reduceAdd, Nat.reduceSub, Nat.reduceMul, Nat.reduceLeDiff, Nat.reduceEqDiff, Nat.reduceBEq, reduceIte, reduceCtorEq, c_path_Right_1, h1]
def fnB : AV := .fn (.func 40) [] []
theorem idx_loop {l : List Int} {h : AH} (hl : l.length ≤ 1000000000) : ∀ (d i : Nat), d + i = l.length →
    ((l.drop i).all okN = true ∧ den T (.loop l_slices_IndexFunc_int_int_0) (s_slices_IndexFunc_int_int_0 (.sl .sh (l.map encI)) fnB (.int .i64 l.length) (.int .i64 i)) h = some (.exit 0, x_slices_IndexFunc_int_int_0, h)) ∨
    ((l.drop i).all okN = false ∧ ∃ σ j, den T (.loop l_slices_IndexFunc_int_int_0) (s_slices_IndexFunc_int_int_0 (.sl .sh (l.map encI)) fnB (.int .i64 l.length) (.int .i64 i)) h = some (.ret, σ, h) ∧ σ.getD 4 undefA = .int .i64 ((j : Nat) : Int)) := by
  intro d
  induction d with
  | zero =>
    intro i hd
    have hd' : decide ((i : Int) < l.length) = false := decide_eq_false (by omega)
    refine .inl ⟨by rw [List.drop_eq_nil_of_le (by omega)]; rfl, ?_⟩
    rw [lp_round]
    simp -implicitDefEqProofs (disch := (refine id_ok ?_; first | assumption | omega | (simp only [go_sem, List.size_toArray, List.length_map, List.length_append, List.length_take, List.length_drop, List.length_cons, List.length_nil, mrLL_app, keyD_i, keyD_s, keyD_b, Nat.reduceAdd, Nat.reduceEqDiff, Nat.reduceLeDiff] <;> omega) | with_unfolding_all rfl | decide)) only [go_sem, Nat.reduceAdd, Nat.reduceSub, Nat.reduceMul, Nat.reduceLeDiff, Nat.reduceEqDiff, Nat.reduceBEq, reduceIte, reduceCtorEq, hd', fnB]
  | succ d ih =>
    intro i hd
    have hib : i < l.length := by omega
    have hd' : decide ((i : Int) < l.length) = true := decide_eq_true (by omega)
    have hge : (l.map encI)[(i : Int).toNat]? = some (encI l[i]) := by simp [hib]
    have hdr : l.drop i = l[i] :: l.drop (i + 1) := List.drop_eq_getElem_cons hib
    have e7 := incP (n := i) (by omega)
    have ih' := ih (i + 1) (by omega)
    rw [hdr, List.all_cons]
    generalize l[i] = x at *
    have hb := bad_run (n := x) (h := h)
    simp only [encI] at hge
    cases hx : okN x
    · rw [hx] at hb
      refine .inr ⟨rfl, ?_⟩
      rw [lp_round]
      simp (maxSteps := 2000000) -implicitDefEqProofs (disch := (refine id_ok ?_; first | assumption | omega | (simp only [go_sem, List.size_toArray, List.length_map, List.length_append, List.length_take, List.length_drop, List.length_cons, List.length_nil, mrLL_app, keyD_i, keyD_s, keyD_b, Nat.reduceAdd, Nat.reduceEqDiff, Nat.reduceLeDiff] <;> omega) | with_unfolding_all rfl | decide)) only [go_sem, Nat.reduceAdd, Nat.reduceSub, Nat.reduceMul, Nat.reduceLeDiff, Nat.reduceEqDiff, Nat.reduceBEq, reduceIte, reduceCtorEq, hd', hge, fnB, hb]
      exact ⟨_, i, rfl, rfl⟩
    · rw [hx] at hb
      have hstep : den T (.loop l_slices_IndexFunc_int_int_0) (s_slices_IndexFunc_int_int_0 (.sl .sh (l.map encI)) fnB (.int .i64 l.length) (.int .i64 i)) h = den T (.loop l_slices_IndexFunc_int_int_0) (s_slices_IndexFunc_int_int_0 (.sl .sh (l.map encI)) fnB (.int .i64 l.length) (.int .i64 (i + 1 : Nat))) h := by
        rw [lp_round]
        simp (maxSteps := 2000000) -implicitDefEqProofs (disch := (refine id_ok ?_; first | assumption | omega | (simp only [go_sem, List.size_toArray, List.length_map, List.length_append, List.length_take, List.length_drop, List.length_cons, List.length_nil, mrLL_app, keyD_i, keyD_s, keyD_b, Nat.reduceAdd, Nat.reduceEqDiff, Nat.reduceLeDiff] <;> omega) | with_unfolding_all rfl | decide)) only [go_sem, Nat.reduceAdd, Nat.reduceSub, Nat.reduceMul, Nat.reduceLeDiff, Nat.reduceEqDiff, Nat.reduceBEq, reduceIte, reduceCtorEq, hd', hge, fnB, hb, e7]
        try rfl
      rw [hstep, Bool.true_and]
      exact ih'
theorem con_run {l : List Int} {h : AH} (hl : l.length ≤ 1000000000) : run T 39 [.sl .sh (l.map encI), .fn (.func 40) [] []] h = some (.bool (!(l.all okN)), h) := by
  have hi : ∃ n : Int, run T 66 [.sl .sh (l.map encI), .fn (.func 40) [] []] h = some (.int .i64 n, h) ∧ decide (n ≥ 0) = !(l.all okN) := by
    rw [run_code T_66]
    rcases idx_loop (h := h) hl l.length 0 (by omega) with ⟨h1, h2⟩ | ⟨h1, σ, j, h2, h3⟩
    · simp only [show ((0 : Nat) : Int) = 0 from rfl, List.drop_zero, fnB] at h1 h2
      refine ⟨-1, ?_, by rw [h1]; rfl⟩
      simp (maxSteps := 2000000) -implicitDefEqProofs (disch := (refine id_ok ?_; first | assumption | omega | (simp only [go_sem, List.size_toArray, List.length_map, List.length_append, List.length_take, List.length_drop, List.length_cons, List.length_nil, mrLL_app, keyD_i, keyD_s, keyD_b, Nat.reduceAdd, Nat.reduceEqDiff, Nat.reduceLeDiff] <;> omega) | with_unfolding_all rfl | decide)) only [go_sem, Nat.reduceAdd, Nat.reduceSub, Nat.reduceMul, Nat.reduceLeDiff, Nat.reduceEqDiff, Nat.reduceBEq, reduceIte, reduceCtorEq, c_slices_IndexFunc_int_int, List.length_map, h2]
    · simp only [show ((0 : Nat) : Int) = 0 from rfl, List.drop_zero, fnB] at h1 h2
      refine ⟨j, ?_, by rw [h1]; exact decide_eq_true (by omega)⟩
      simp (maxSteps := 2000000) -implicitDefEqProofs (disch := (refine id_ok ?_; first | assumption | omega | (simp only [go_sem, List.size_toArray, List.length_map, List.length_append, List.length_take, List.length_drop, List.length_cons, List.length_nil, mrLL_app, keyD_i, keyD_s, keyD_b, Nat.reduceAdd, Nat.reduceEqDiff, Nat.reduceLeDiff] <;> omega) | with_unfolding_all rfl | decide)) only [go_sem, Nat.reduceAdd, Nat.reduceSub, Nat.reduceMul, Nat.reduceLeDiff, Nat.reduceEqDiff, Nat.reduceBEq, reduceIte, reduceCtorEq, c_slices_IndexFunc_int_int, List.length_map, h2, h3]
  obtain ⟨n, h1, h2⟩ := hi
  rw [run_code T_39]
  simp (maxSteps := 2000000) -implicitDefEqProofs (disch := (refine id_ok ?_; first | assumption | omega | (simp only [go_sem, List.size_toArray, List.length_map, List.length_append, List.length_take, List.length_drop, List.length_cons, List.length_nil, mrLL_app, keyD_i, keyD_s, keyD_b, Nat.reduceAdd, Nat.reduceEqDiff, Nat.reduceLeDiff] <;> omega) | with_unfolding_all rfl | decide)) only [go_sem, Nat.reduceAdd, Nat.reduceSub, Nat.reduceMul, Nat.reduceLeDiff, Nat.reduceEqDiff, Nat.reduceBEq, reduceIte, reduceCtorEq, c_slices_ContainsFunc_int_int, h1, h2]
def rigP (l : List Int) : Bool := decide (l.length ≤ 6) && l.all okN
theorem rigP_run {l : List Int} {h : AH} : run T 15 [.sl .sh (l.map encI)] h = some (.bool (rigP l), h) := by
  have e1 : decide ((l.length : Int) ≤ 6) = decide (l.length ≤ 6) := by congr 1; exact propext (by omega)
  rw [run_code T_15]
  unfold rigP
  by_cases h6 : l.length ≤ 6
  · have hc := fun h => con_run (l := l) (h := h) (by omega)
    rw [decide_eq_true h6] at e1
    simp (maxSteps := 2000000) -implicitDefEqProofs (disch := (refine id_ok ?_; first | assumption | omega | (simp only [go_sem, List.size_toArray, List.length_map, List.length_append, List.length_take, List.length_drop, List.length_cons, List.length_nil, mrLL_app, keyD_i, keyD_s, keyD_b, Nat.reduceAdd, Nat.reduceEqDiff, Nat.reduceLeDiff] <;> omega) | with_unfolding_all rfl | decide)) only [go_sem, Nat.reduceAdd, Nat.reduceSub, Nat.reduceMul, Nat.reduceLeDiff, Nat.reduceEqDiff, Nat.reduceBEq, reduceIte, reduceCtorEq, c_path_Right, List.length_map, e1, hc, Bool.not_not, h6, decide_true, Bool.true_and]
  · rw [decide_eq_false h6] at e1
    simp (maxSteps := 2000000) -implicitDefEqProofs (disch := (refine id_ok ?_; first | assumption | omega | (simp only [go_sem, List.size_toArray, List.length_map, List.length_append, List.length_take, List.length_drop, List.length_cons, List.length_nil, mrLL_app, keyD_i, keyD_s, keyD_b, Nat.reduceAdd, Nat.reduceEqDiff, Nat.reduceLeDiff] <;> omega) | with_unfolding_all rfl | decide)) only [go_sem, Nat.reduceAdd, Nat.reduceSub, Nat.reduceMul, Nat.reduceLeDiff, Nat.reduceEqDiff, Nat.reduceBEq, reduceIte, reduceCtorEq, c_path_Right, List.length_map, e1, decide_eq_false h6, Bool.false_and]
theorem rigP_all {l : List Int} (h : rigP l = true) : l.length ≤ 6 ∧ ∀ x ∈ l, 0 ≤ x ∧ x ≤ 1048576 := by
  simp only [rigP, Bool.and_eq_true, decide_eq_true_eq, List.all_eq_true] at h
  exact ⟨h.1, fun x hx => okN_iff.1 (h.2 x hx)⟩
theorem rigP_inI {l : List Int} (h : rigP l = true) : inI l = true := by
  unfold inI
  rw [List.all_eq_true]
  intro x hx
  have := (rigP_all h).2 x hx
  simp; omega
/-! ### paths compared -/
theorem drop_decI {α : Type} [DecidableEq α] {a b : List α} {i : Nat} (ha : i < a.length) (hb : i < b.length) : decide (a.drop i = b.drop i) = (decide (a[i] = b[i]) && decide (a.drop (i + 1) = b.drop (i + 1))) := by
  have h : (a.drop i = b.drop i) ↔ (a[i] = b[i] ∧ a.drop (i + 1) = b.drop (i + 1)) := by
    rw [List.drop_eq_getElem_cons ha, List.drop_eq_getElem_cons hb, List.cons.injEq]
  rw [decide_eq_decide.2 h, Bool.decide_and]
theorem eqI__loop {a b : List Int} {h : AH} (hl : a.length = b.length) (hs : a.length ≤ 1000000000) : ∀ (d i : Nat), d + i = a.length →
    (decide (a.drop i = b.drop i) = true ∧ den T (.loop l_slices_Equal_int_int_0) (s_slices_Equal_int_int_0 (.sl .sh (a.map encI)) (.sl .sh (b.map encI)) (.int .i64 a.length) (.int .i64 i)) h = some (.exit 0, x_slices_Equal_int_int_0, h)) ∨
    (decide (a.drop i = b.drop i) = false ∧ ∃ σ, den T (.loop l_slices_Equal_int_int_0) (s_slices_Equal_int_int_0 (.sl .sh (a.map encI)) (.sl .sh (b.map encI)) (.int .i64 a.length) (.int .i64 i)) h = some (.ret, σ, h) ∧ σ.getD 4 undefA = .bool false) := by
  intro d
  induction d with
  | zero =>
    intro i hd
    have hd' : decide ((i : Int) < a.length) = false := decide_eq_false (by omega)
    refine .inl ⟨by rw [List.drop_eq_nil_of_le (by omega), List.drop_eq_nil_of_le (by omega)]; rfl, ?_⟩
    rw [lp_round]
    simp -implicitDefEqProofs (disch := (refine id_ok ?_; first | assumption | omega | (simp only [go_sem, List.size_toArray, List.length_map, List.length_append, List.length_take, List.length_drop, List.length_cons, List.length_nil, mrLL_app, keyD_i, keyD_s, keyD_b, Nat.reduceAdd, Nat.reduceEqDiff, Nat.reduceLeDiff] <;> omega) | with_unfolding_all rfl | decide)) only [go_sem, Nat.reduceAdd, Nat.reduceSub, Nat.reduceMul, Nat.reduceLeDiff, Nat.reduceEqDiff, Nat.reduceBEq, reduceIte, reduceCtorEq, hd']
  | succ d ih =>
    intro i hd
    have hia : i < a.length := by omega
    have hib : i < b.length := by omega
    have hd' : decide ((i : Int) < a.length) = true := decide_eq_true (by omega)
    have ga : (a.map encI)[(i : Int).toNat]? = some (encI a[i]) := by simp [hia]
    have gb : (b.map encI)[(i : Int).toNat]? = some (encI b[i]) := by simp [hib]
    have e7 := incP (n := i) (by omega)
    have ih' := ih (i + 1) (by omega)
    have hdr := drop_decI hia hib
    generalize a[i] = x at *
    generalize b[i] = y at *
    rw [hdr]
    simp only [encI] at ga gb
    by_cases hxy : x = y
    · have hx : decide (x = y) = true := decide_eq_true hxy
      have hq : (x != y) = false := by simp [hxy]
      have hstep : den T (.loop l_slices_Equal_int_int_0) (s_slices_Equal_int_int_0 (.sl .sh (a.map encI)) (.sl .sh (b.map encI)) (.int .i64 a.length) (.int .i64 i)) h = den T (.loop l_slices_Equal_int_int_0) (s_slices_Equal_int_int_0 (.sl .sh (a.map encI)) (.sl .sh (b.map encI)) (.int .i64 a.length) (.int .i64 (i + 1 : Nat))) h := by
        rw [lp_round]
        simp (maxSteps := 2000000) -implicitDefEqProofs (disch := (refine id_ok ?_; first | assumption | omega | (simp only [go_sem, List.size_toArray, List.length_map, List.length_append, List.length_take, List.length_drop, List.length_cons, List.length_nil, mrLL_app, keyD_i, keyD_s, keyD_b, Nat.reduceAdd, Nat.reduceEqDiff, Nat.reduceLeDiff] <;> omega) | with_unfolding_all rfl | decide)) only [go_sem, Nat.reduceAdd, Nat.reduceSub, Nat.reduceMul, Nat.reduceLeDiff, Nat.reduceEqDiff, Nat.reduceBEq, reduceIte, reduceCtorEq, hd', ga, gb, hq, e7]
        try rfl
      rw [hstep, hx, Bool.true_and]
      exact ih'
    · have hx : decide (x = y) = false := decide_eq_false hxy
      have hq : (x != y) = true := by simp [hxy]
      refine .inr ⟨by rw [hx, Bool.false_and], ?_⟩
      rw [lp_round]
      simp (maxSteps := 2000000) -implicitDefEqProofs (disch := (refine id_ok ?_; first | assumption | omega | (simp only [go_sem, List.size_toArray, List.length_map, List.length_append, List.length_take, List.length_drop, List.length_cons, List.length_nil, mrLL_app, keyD_i, keyD_s, keyD_b, Nat.reduceAdd, Nat.reduceEqDiff, Nat.reduceLeDiff] <;> omega) | with_unfolding_all rfl | decide)) only [go_sem, Nat.reduceAdd, Nat.reduceSub, Nat.reduceMul, Nat.reduceLeDiff, Nat.reduceEqDiff, Nat.reduceBEq, reduceIte, reduceCtorEq, hd', ga, gb, hq]
      exact ⟨_, rfl, rfl⟩
theorem eqI__run {a b : List Int} {h : AH} (ha : a.length ≤ 1000000000) : run T 51 [.sl .sh (a.map encI), .sl .sh (b.map encI)] h = some (.bool (decide (a = b)), h) := by
  rw [run_code T_51]
  by_cases hl : a.length = b.length
  · have hq : ((a.length : Int) != (b.length : Int)) = false := by simp [hl]
    rcases eqI__loop (h := h) hl ha a.length 0 (by omega) with ⟨h1, h2⟩ | ⟨h1, σ, h2, h3⟩
    · simp only [show ((0 : Nat) : Int) = 0 from rfl, List.drop_zero] at h1 h2
      simp (maxSteps := 2000000) -implicitDefEqProofs (disch := (refine id_ok ?_; first | assumption | omega | (simp only [go_sem, List.size_toArray, List.length_map, List.length_append, List.length_take, List.length_drop, List.length_cons, List.length_nil, mrLL_app, keyD_i, keyD_s, keyD_b, Nat.reduceAdd, Nat.reduceEqDiff, Nat.reduceLeDiff] <;> omega) | with_unfolding_all rfl | decide)) only [go_sem, Nat.reduceAdd, Nat.reduceSub, Nat.reduceMul, Nat.reduceLeDiff, Nat.reduceEqDiff, Nat.reduceBEq, reduceIte, reduceCtorEq, c_slices_Equal_int_int, List.length_map, hq, h2, h1]
    · simp only [show ((0 : Nat) : Int) = 0 from rfl, List.drop_zero] at h1 h2
      simp (maxSteps := 2000000) -implicitDefEqProofs (disch := (refine id_ok ?_; first | assumption | omega | (simp only [go_sem, List.size_toArray, List.length_map, List.length_append, List.length_take, List.length_drop, List.length_cons, List.length_nil, mrLL_app, keyD_i, keyD_s, keyD_b, Nat.reduceAdd, Nat.reduceEqDiff, Nat.reduceLeDiff] <;> omega) | with_unfolding_all rfl | decide)) only [go_sem, Nat.reduceAdd, Nat.reduceSub, Nat.reduceMul, Nat.reduceLeDiff, Nat.reduceEqDiff, Nat.reduceBEq, reduceIte, reduceCtorEq, c_slices_Equal_int_int, List.length_map, hq, h2, h1, h3]
  · have hq : ((a.length : Int) != (b.length : Int)) = true := by simp; omega
    have hne : decide (a = b) = false := decide_eq_false fun e => hl (by rw [e])
    simp (maxSteps := 2000000) -implicitDefEqProofs (disch := (refine id_ok ?_; first | assumption | omega | (simp only [go_sem, List.size_toArray, List.length_map, List.length_append, List.length_take, List.length_drop, List.length_cons, List.length_nil, mrLL_app, keyD_i, keyD_s, keyD_b, Nat.reduceAdd, Nat.reduceEqDiff, Nat.reduceLeDiff] <;> omega) | with_unfolding_all rfl | decide)) only [go_sem, Nat.reduceAdd, Nat.reduceSub, Nat.reduceMul, Nat.reduceLeDiff, Nat.reduceEqDiff, Nat.reduceBEq, reduceIte, reduceCtorEq, c_slices_Equal_int_int, List.length_map, hq, hne]
theorem sm8_loop {a b : List Int} {h : AH} (hl : a.length = b.length) (hs : a.length ≤ 1000000000) : ∀ (d i : Nat), d + i = a.length →
    (decide (a.drop i = b.drop i) = true ∧ den T (.loop l_regencyref08_Same_0) (s_regencyref08_Same_0 (.sl .sh (a.map encI)) (.sl .sh (b.map encI)) (.int .i64 a.length) (.int .i64 i)) h = some (.exit 0, x_regencyref08_Same_0, h)) ∨
    (decide (a.drop i = b.drop i) = false ∧ ∃ σ, den T (.loop l_regencyref08_Same_0) (s_regencyref08_Same_0 (.sl .sh (a.map encI)) (.sl .sh (b.map encI)) (.int .i64 a.length) (.int .i64 i)) h = some (.ret, σ, h) ∧ σ.getD 4 undefA = .bool false) := by
  intro d
  induction d with
  | zero =>
    intro i hd
    have hd' : decide ((i : Int) < a.length) = false := decide_eq_false (by omega)
    refine .inl ⟨by rw [List.drop_eq_nil_of_le (by omega), List.drop_eq_nil_of_le (by omega)]; rfl, ?_⟩
    rw [lp_round]
    simp -implicitDefEqProofs (disch := (refine id_ok ?_; first | assumption | omega | (simp only [go_sem, List.size_toArray, List.length_map, List.length_append, List.length_take, List.length_drop, List.length_cons, List.length_nil, mrLL_app, keyD_i, keyD_s, keyD_b, Nat.reduceAdd, Nat.reduceEqDiff, Nat.reduceLeDiff] <;> omega) | with_unfolding_all rfl | decide)) only [go_sem, Nat.reduceAdd, Nat.reduceSub, Nat.reduceMul, Nat.reduceLeDiff, Nat.reduceEqDiff, Nat.reduceBEq, reduceIte, reduceCtorEq, hd']
  | succ d ih =>
    intro i hd
    have hia : i < a.length := by omega
    have hib : i < b.length := by omega
    have hd' : decide ((i : Int) < a.length) = true := decide_eq_true (by omega)
    have ga : (a.map encI)[(i : Int).toNat]? = some (encI a[i]) := by simp [hia]
    have gb : (b.map encI)[(i : Int).toNat]? = some (encI b[i]) := by simp [hib]
    have e7 := incP (n := i) (by omega)
    have ih' := ih (i + 1) (by omega)
    have hdr := drop_decI hia hib
    generalize a[i] = x at *
    generalize b[i] = y at *
    rw [hdr]
    simp only [encI] at ga gb
    by_cases hxy : x = y
    · have hx : decide (x = y) = true := decide_eq_true hxy
      have hq : (x != y) = false := by simp [hxy]
      have hstep : den T (.loop l_regencyref08_Same_0) (s_regencyref08_Same_0 (.sl .sh (a.map encI)) (.sl .sh (b.map encI)) (.int .i64 a.length) (.int .i64 i)) h = den T (.loop l_regencyref08_Same_0) (s_regencyref08_Same_0 (.sl .sh (a.map encI)) (.sl .sh (b.map encI)) (.int .i64 a.length) (.int .i64 (i + 1 : Nat))) h := by
        rw [lp_round]
        simp (maxSteps := 2000000) -implicitDefEqProofs (disch := (refine id_ok ?_; first | assumption | omega | (simp only [go_sem, List.size_toArray, List.length_map, List.length_append, List.length_take, List.length_drop, List.length_cons, List.length_nil, mrLL_app, keyD_i, keyD_s, keyD_b, Nat.reduceAdd, Nat.reduceEqDiff, Nat.reduceLeDiff] <;> omega) | with_unfolding_all rfl | decide)) only [go_sem, Nat.reduceAdd, Nat.reduceSub, Nat.reduceMul, Nat.reduceLeDiff, Nat.reduceEqDiff, Nat.reduceBEq, reduceIte, reduceCtorEq, hd', ga, gb, hq, e7]
        try rfl
      rw [hstep, hx, Bool.true_and]
      exact ih'
    · have hx : decide (x = y) = false := decide_eq_false hxy
      have hq : (x != y) = true := by simp [hxy]
      refine .inr ⟨by rw [hx, Bool.false_and], ?_⟩
      rw [lp_round]
      simp (maxSteps := 2000000) -implicitDefEqProofs (disch := (refine id_ok ?_; first | assumption | omega | (simp only [go_sem, List.size_toArray, List.length_map, List.length_append, List.length_take, List.length_drop, List.length_cons, List.length_nil, mrLL_app, keyD_i, keyD_s, keyD_b, Nat.reduceAdd, Nat.reduceEqDiff, Nat.reduceLeDiff] <;> omega) | with_unfolding_all rfl | decide)) only [go_sem, Nat.reduceAdd, Nat.reduceSub, Nat.reduceMul, Nat.reduceLeDiff, Nat.reduceEqDiff, Nat.reduceBEq, reduceIte, reduceCtorEq, hd', ga, gb, hq]
      exact ⟨_, rfl, rfl⟩
theorem sm8_run {a b : List Int} {h : AH} (ha : a.length ≤ 1000000000) : run T 11 [.sl .sh (a.map encI), .sl .sh (b.map encI)] h = some (.bool (decide (a = b)), h) := by
  rw [run_code T_11]
  by_cases hl : a.length = b.length
  · have hq : ((a.length : Int) != (b.length : Int)) = false := by simp [hl]
    rcases sm8_loop (h := h) hl ha a.length 0 (by omega) with ⟨h1, h2⟩ | ⟨h1, σ, h2, h3⟩
    · simp only [show ((0 : Nat) : Int) = 0 from rfl, List.drop_zero] at h1 h2
      simp (maxSteps := 2000000) -implicitDefEqProofs (disch := (refine id_ok ?_; first | assumption | omega | (simp only [go_sem, List.size_toArray, List.length_map, List.length_append, List.length_take, List.length_drop, List.length_cons, List.length_nil, mrLL_app, keyD_i, keyD_s, keyD_b, Nat.reduceAdd, Nat.reduceEqDiff, Nat.reduceLeDiff] <;> omega) | with_unfolding_all rfl | decide)) only [go_sem, Nat.reduceAdd, Nat.reduceSub, Nat.reduceMul, Nat.reduceLeDiff, Nat.reduceEqDiff, Nat.reduceBEq, reduceIte, reduceCtorEq, c_regencyref08_Same, List.length_map, hq, h2, h1]
    · simp only [show ((0 : Nat) : Int) = 0 from rfl, List.drop_zero] at h1 h2
      simp (maxSteps := 2000000) -implicitDefEqProofs (disch := (refine id_ok ?_; first | assumption | omega | (simp only [go_sem, List.size_toArray, List.length_map, List.length_append, List.length_take, List.length_drop, List.length_cons, List.length_nil, mrLL_app, keyD_i, keyD_s, keyD_b, Nat.reduceAdd, Nat.reduceEqDiff, Nat.reduceLeDiff] <;> omega) | with_unfolding_all rfl | decide)) only [go_sem, Nat.reduceAdd, Nat.reduceSub, Nat.reduceMul, Nat.reduceLeDiff, Nat.reduceEqDiff, Nat.reduceBEq, reduceIte, reduceCtorEq, c_regencyref08_Same, List.length_map, hq, h2, h1, h3]
  · have hq : ((a.length : Int) != (b.length : Int)) = true := by simp; omega
    have hne : decide (a = b) = false := decide_eq_false fun e => hl (by rw [e])
    simp (maxSteps := 2000000) -implicitDefEqProofs (disch := (refine id_ok ?_; first | assumption | omega | (simp only [go_sem, List.size_toArray, List.length_map, List.length_append, List.length_take, List.length_drop, List.length_cons, List.length_nil, mrLL_app, keyD_i, keyD_s, keyD_b, Nat.reduceAdd, Nat.reduceEqDiff, Nat.reduceLeDiff] <;> omega) | with_unfolding_all rfl | decide)) only [go_sem, Nat.reduceAdd, Nat.reduceSub, Nat.reduceMul, Nat.reduceLeDiff, Nat.reduceEqDiff, Nat.reduceBEq, reduceIte, reduceCtorEq, c_regencyref08_Same, List.length_map, hq, hne]
theorem cmp_run {a b : List Int} {h : AH} (ha : a.length ≤ 1000000000) : run T 25 [.sl .sh (a.map encI), .sl .sh (b.map encI)] h = some (.int .i64 (cmpL a b), h) := by
  have h1 := cmpL_run (a := a) (b := b) (h := []) (by omega)
  rw [run_code T_25]
  simp -implicitDefEqProofs (disch := (refine id_ok ?_; first | assumption | omega | (simp only [go_sem, List.size_toArray, List.length_map, List.length_append, List.length_take, List.length_drop, List.length_cons, List.length_nil, mrLL_app, keyD_i, keyD_s, keyD_b, Nat.reduceAdd, Nat.reduceEqDiff, Nat.reduceLeDiff] <;> omega) | with_unfolding_all rfl | decide)) only [go_sem, Nat.reduceAdd, Nat.reduceSub, Nat.reduceMul, Nat.reduceLeDiff, Nat.reduceEqDiff, Nat.reduceBEq, reduceIte, reduceCtorEq, c_path_Compare, h1]
theorem drp0 {α : Type} {l : List α} : l.drop (Int.toNat 0) = l := by simp
def belP (a b : List Int) : Bool := decide (a.length > b.length) && decide (a.take b.length = b)
theorem bel_run {a b : List Int} {h : AH} (ha : a.length ≤ 1000000000) : run T 24 [.sl .sh (a.map encI), .sl .sh (b.map encI)] h = some (.bool (belP a b), h) := by
  have e1 : decide ((a.length : Int) > (b.length : Int)) = decide (a.length > b.length) := by congr 1; exact propext (by omega)
  rw [run_code T_24]
  unfold belP
  by_cases hl : a.length > b.length
  · rw [decide_eq_true hl] at e1 ⊢
    have h1 := fun h => eqI__run (a := a.take b.length) (b := b) (h := h) (by rw [List.length_take]; omega)
    have e2 : (a.map encI).take ((b.length : Int)).toNat = (a.take b.length).map encI := by rw [Int.toNat_natCast, List.map_take]
    simp (maxSteps := 2000000) -implicitDefEqProofs (disch := (refine id_ok ?_; first | assumption | omega | (simp only [go_sem, List.size_toArray, List.length_map, List.length_append, List.length_take, List.length_drop, List.length_cons, List.length_nil, mrLL_app, keyD_i, keyD_s, keyD_b, Nat.reduceAdd, Nat.reduceEqDiff, Nat.reduceLeDiff] <;> omega) | with_unfolding_all rfl | decide)) only [go_sem, Nat.reduceAdd, Nat.reduceSub, Nat.reduceMul, Nat.reduceLeDiff, Nat.reduceEqDiff, Nat.reduceBEq, reduceIte, reduceCtorEq, c_path_Below, List.length_map, e1, e2, h1, Bool.true_and, drp0, false_and]
  · rw [decide_eq_false hl] at e1 ⊢
    simp (maxSteps := 2000000) -implicitDefEqProofs (disch := (refine id_ok ?_; first | assumption | omega | (simp only [go_sem, List.size_toArray, List.length_map, List.length_append, List.length_take, List.length_drop, List.length_cons, List.length_nil, mrLL_app, keyD_i, keyD_s, keyD_b, Nat.reduceAdd, Nat.reduceEqDiff, Nat.reduceLeDiff] <;> omega) | with_unfolding_all rfl | decide)) only [go_sem, Nat.reduceAdd, Nat.reduceSub, Nat.reduceMul, Nat.reduceLeDiff, Nat.reduceEqDiff, Nat.reduceBEq, reduceIte, reduceCtorEq, c_path_Below, List.length_map, e1, Bool.false_and]
/-! ### parents and children -/
theorem cloI_run {l : List Int} {h : AH} (hn : l.length < 1000000000) : run T 47 [.sl .sh (l.map encI)] h = some (ow (l.map encI), h) := by
  rw [run_prim T_47]
  show (if szOK 1 (l.map encI) = true ∧ _ then _ else _) = _
  rw [if_pos ⟨szOK_I, by rw [List.length_map]; omega, by rw [List.length_map]; omega⟩]
theorem par_run {l : List Int} {x : Int} {h : AH} (hl : l.length < 1000000) : run T 19 [.sl .sh ((l ++ [x]).map encI)] h = some (.tup [ow (l.map encI), .int .i64 x, .bool true], h) := by
  have hlen : ((l ++ [x]).map encI).length = l.length + 1 := by simp
  have e1 : IntKind.i64.wrap (((l.length + 1 : Nat) : Int) - 1) = ((l.length : Nat) : Int) := by rw [w64 (by omega) (by omega)]; omega
  have e2 : decide ((l.length : Int) < 0) = false := decide_eq_false (by omega)
  have e3 : ((l ++ [x]).map encI).take ((l.length : Int)).toNat = l.map encI := by rw [Int.toNat_natCast]; simp
  have e4 : ((l ++ [x]).map encI)[((l.length : Int)).toNat]? = some [.int .i64 x] := by rw [Int.toNat_natCast]; simp [encI]
  have h1 := fun h => cloI_run (l := l) (h := h) (by omega)
  have hsz : szOK 1 ((l ++ [x]).map encI) = true := szOK_I
  rw [run_code T_19]
  generalize (l ++ [x]).map encI = L at *
  simp (maxSteps := 2000000) -implicitDefEqProofs (disch := (refine id_ok ?_; first | assumption | omega | (simp only [go_sem, List.size_toArray, List.length_map, List.length_append, List.length_take, List.length_drop, List.length_cons, List.length_nil, mrLL_app, keyD_i, keyD_s, keyD_b, Nat.reduceAdd, Nat.reduceEqDiff, Nat.reduceLeDiff] <;> omega) | with_unfolding_all rfl | decide)) only [go_sem, Nat.reduceAdd, Nat.reduceSub, Nat.reduceMul, Nat.reduceLeDiff, Nat.reduceEqDiff, Nat.reduceBEq, reduceIte, reduceCtorEq, c_path_Parent, hlen, e1, e2, e3, e4, h1, hsz, drp0, false_and]
theorem par_nil {h : AH} : run T 19 [.sl .sh []] h = some (.tup [ow [], .int .i64 0, .bool false], h) := by
  have e1 : IntKind.i64.wrap (((0 : Nat) : Int) - 1) = -1 := by decide
  rw [run_code T_19]
  simp (maxSteps := 2000000) -implicitDefEqProofs (disch := (refine id_ok ?_; first | assumption | omega | (simp only [go_sem, List.size_toArray, List.length_map, List.length_append, List.length_take, List.length_drop, List.length_cons, List.length_nil, mrLL_app, keyD_i, keyD_s, keyD_b, Nat.reduceAdd, Nat.reduceEqDiff, Nat.reduceLeDiff] <;> omega) | with_unfolding_all rfl | decide)) only [go_sem, Nat.reduceAdd, Nat.reduceSub, Nat.reduceMul, Nat.reduceLeDiff, Nat.reduceEqDiff, Nat.reduceBEq, reduceIte, reduceCtorEq, c_path_Parent, e1, show decide ((-1 : Int) < 0) = true from rfl]
theorem clip_run {l : List Int} {h : AH} (hn : l.length < 1000000000) : run T 48 [.sl .sh (l.map encI)] h = some (.sl .ex (l.map encI), h) := by
  have e1 : (l.map encI).take (((l.map encI).length : Int)).toNat = l.map encI := by rw [Int.toNat_natCast, List.take_length]
  have hsz : szOK 1 (l.map encI) = true := szOK_I
  rw [run_code T_48]
  generalize l.map encI = L at *
  simp (maxSteps := 2000000) -implicitDefEqProofs (disch := (refine id_ok ?_; first | assumption | omega | (simp only [go_sem, List.size_toArray, List.length_map, List.length_append, List.length_take, List.length_drop, List.length_cons, List.length_nil, mrLL_app, keyD_i, keyD_s, keyD_b, Nat.reduceAdd, Nat.reduceEqDiff, Nat.reduceLeDiff] <;> omega) | with_unfolding_all rfl | decide)) only [go_sem, Nat.reduceAdd, Nat.reduceSub, Nat.reduceMul, Nat.reduceLeDiff, Nat.reduceEqDiff, Nat.reduceBEq, reduceIte, reduceCtorEq, c_slices_Clip_int_int, e1, hsz, drp0, false_and]
def chiP (l : List Int) (n : Int) : AV := if rigP (l ++ [n]) = true then .tup [ow ((l ++ [n]).map encI), .bool true] else .tup [ow [], .bool false]
theorem chi_run {l : List Int} {n : Int} {h : AH} (hl : l.length < 1000000) : run T 20 [.sl .sh (l.map encI), .int .i64 n] h = some (chiP l n, h) := by
  have h1 := fun h => cloI_run (l := l) (h := h) (by omega)
  have h2 := fun h => clip_run (l := l) (h := h) (by omega)
  have h3 := fun h => rigP_run (l := l ++ [n]) (h := h)
  have hm : (l ++ [n]).map encI = l.map encI ++ [[.int .i64 n]] := by simp [encI]
  rw [run_code T_20]
  unfold chiP
  rw [hm] at h3 ⊢
  cases hr : rigP (l ++ [n])
  · rw [hr] at h3
    simp (maxSteps := 2000000) -implicitDefEqProofs (disch := (refine id_ok ?_; first | assumption | omega | (simp only [go_sem, List.size_toArray, List.length_map, List.length_append, List.length_take, List.length_drop, List.length_cons, List.length_nil, mrLL_app, keyD_i, keyD_s, keyD_b, Nat.reduceAdd, Nat.reduceEqDiff, Nat.reduceLeDiff] <;> omega) | with_unfolding_all rfl | decide)) only [go_sem, Nat.reduceAdd, Nat.reduceSub, Nat.reduceMul, Nat.reduceLeDiff, Nat.reduceEqDiff, Nat.reduceBEq, reduceIte, reduceCtorEq, c_path_Child, h1, h2, h3, List.length_map, Bool.false_eq_true, if_false]
  · rw [hr] at h3
    simp (maxSteps := 2000000) -implicitDefEqProofs (disch := (refine id_ok ?_; first | assumption | omega | (simp only [go_sem, List.size_toArray, List.length_map, List.length_append, List.length_take, List.length_drop, List.length_cons, List.length_nil, mrLL_app, keyD_i, keyD_s, keyD_b, Nat.reduceAdd, Nat.reduceEqDiff, Nat.reduceLeDiff] <;> omega) | with_unfolding_all rfl | decide)) only [go_sem, Nat.reduceAdd, Nat.reduceSub, Nat.reduceMul, Nat.reduceLeDiff, Nat.reduceEqDiff, Nat.reduceBEq, reduceIte, reduceCtorEq, c_path_Child, h1, h2, h3, List.length_map, if_true]
end Go.Proofs.YtjeigcnaalleiaaDoor.L
