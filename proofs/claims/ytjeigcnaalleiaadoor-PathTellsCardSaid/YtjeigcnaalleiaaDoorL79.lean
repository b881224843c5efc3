/- The document's paths: right, told, put, parsed. -/
import Derived.Test.YtjeigcnaalleiaaDoorL73
import Derived.Test.YtjeigcnaalleiaaDoorL75
import Derived.Test.YtjeigcnaalleiaaDoorL76
set_option linter.all false
set_option maxRecDepth 100000
namespace Go.Proofs.YtjeigcnaalleiaaDoor.L
open Go.Proofs.YtjeigcnaalleiaaDoor.M Go.Proofs.YtjeigcnaalleiaaDoor.F Go.Proofs

theorem rr8_loop {l : List Int} {h : AH} (hl : l.length ≤ 1000000000) : ∀ (d i : Nat), d + i = l.length →
    ((l.drop i).all okN = true ∧ den T (.loop l_regencyref08_Right_0) (s_regencyref08_Right_0 (.sl .sh (l.map encI)) (.sl .sh (l.map encI)) (.int .i64 l.length) (.int .i64 i)) h = some (.exit 0, x_regencyref08_Right_0 (.sl .sh (l.map encI)), h)) ∨
    ((l.drop i).all okN = false ∧ ∃ σ, den T (.loop l_regencyref08_Right_0) (s_regencyref08_Right_0 (.sl .sh (l.map encI)) (.sl .sh (l.map encI)) (.int .i64 l.length) (.int .i64 i)) h = some (.ret, σ, h) ∧ σ.getD 2 undefA = .bool false) := by
  intro d
  induction d with
  | zero =>
    intro i hd
    have hd' : decide ((i : Int) < l.length) = false := decide_eq_false (by omega)
    refine .inl ⟨by rw [List.drop_eq_nil_of_le (by omega)]; rfl, ?_⟩
    rw [lp_round]
    simp -implicitDefEqProofs (disch := (refine id_ok ?_; first | assumption | omega | (simp only [go_sem, List.size_toArray, List.length_map, List.length_append, List.length_take, List.length_drop, List.length_cons, List.length_nil, mrLL_app, keyD_i, keyD_s, keyD_b, Nat.reduceAdd, Nat.reduceEqDiff, Nat.reduceLeDiff] <;> omega) | with_unfolding_all rfl | decide)) only [go_sem, Nat.reduceAdd, Nat.reduceSub, Nat.reduceMul, Nat.reduceLeDiff, Nat.reduceEqDiff, Nat.reduceBEq, reduceIte, reduceCtorEq, hd']
  | succ d ih =>
    intro i hd
    have hib : i < l.length := by omega
    have hd' : decide ((i : Int) < l.length) = true := decide_eq_true (by omega)
    have hge : (l.map encI)[(i : Int).toNat]? = some (encI l[i]) := by simp [hib]
    have hdr : l.drop i = l[i] :: l.drop (i + 1) := List.drop_eq_getElem_cons hib
    have e7 := incP (n := i) (by omega)
    have ih' := ih (i + 1) (by omega)
    rw [hdr, List.all_cons]
    generalize l[i] = x at *
    simp only [encI] at hge
    by_cases h0 : x < 0
    · have d1 : decide (x < 0) = true := decide_eq_true h0
      have hx : okN x = false := by rw [Bool.eq_false_iff, ne_eq, okN_iff]; omega
      refine .inr ⟨by rw [hx, Bool.false_and], ?_⟩
      rw [lp_round]
      simp (maxSteps := 2000000) -implicitDefEqProofs (disch := (refine id_ok ?_; first | assumption | omega | (simp only [go_sem, List.size_toArray, List.length_map, List.length_append, List.length_take, List.length_drop, List.length_cons, List.length_nil, mrLL_app, keyD_i, keyD_s, keyD_b, Nat.reduceAdd, Nat.reduceEqDiff, Nat.reduceLeDiff] <;> omega) | with_unfolding_all rfl | decide)) only [go_sem, Nat.reduceAdd, Nat.reduceSub, Nat.reduceMul, Nat.reduceLeDiff, Nat.reduceEqDiff, Nat.reduceBEq, reduceIte, reduceCtorEq, hd', hge, d1]
      exact ⟨_, rfl, rfl⟩
    · have d1 : decide (x < 0) = false := decide_eq_false h0
      by_cases h1 : x > 1048576
      · have d2 : decide (x > 1048576) = true := decide_eq_true h1
        have hx : okN x = false := by rw [Bool.eq_false_iff, ne_eq, okN_iff]; omega
        refine .inr ⟨by rw [hx, Bool.false_and], ?_⟩
        rw [lp_round]
        simp (maxSteps := 2000000) -implicitDefEqProofs (disch := (refine id_ok ?_; first | assumption | omega | (simp only [go_sem, List.size_toArray, List.length_map, List.length_append, List.length_take, List.length_drop, List.length_cons, List.length_nil, mrLL_app, keyD_i, keyD_s, keyD_b, Nat.reduceAdd, Nat.reduceEqDiff, Nat.reduceLeDiff] <;> omega) | with_unfolding_all rfl | decide)) only [go_sem, Nat.reduceAdd, Nat.reduceSub, Nat.reduceMul, Nat.reduceLeDiff, Nat.reduceEqDiff, Nat.reduceBEq, reduceIte, reduceCtorEq, hd', hge, d1, d2]
        exact ⟨_, rfl, rfl⟩
      · have d2 : decide (x > 1048576) = false := decide_eq_false h1
        have hx : okN x = true := okN_iff.2 (by omega)
        have hstep : den T (.loop l_regencyref08_Right_0) (s_regencyref08_Right_0 (.sl .sh (l.map encI)) (.sl .sh (l.map encI)) (.int .i64 l.length) (.int .i64 i)) h = den T (.loop l_regencyref08_Right_0) (s_regencyref08_Right_0 (.sl .sh (l.map encI)) (.sl .sh (l.map encI)) (.int .i64 l.length) (.int .i64 (i + 1 : Nat))) h := by
          rw [lp_round]
          simp (maxSteps := 2000000) -implicitDefEqProofs (disch := (refine id_ok ?_; first | assumption | omega | (simp only [go_sem, List.size_toArray, List.length_map, List.length_append, List.length_take, List.length_drop, List.length_cons, List.length_nil, mrLL_app, keyD_i, keyD_s, keyD_b, Nat.reduceAdd, Nat.reduceEqDiff, Nat.reduceLeDiff] <;> omega) | with_unfolding_all rfl | decide)) only [go_sem, Nat.reduceAdd, Nat.reduceSub, Nat.reduceMul, Nat.reduceLeDiff, Nat.reduceEqDiff, Nat.reduceBEq, reduceIte, reduceCtorEq, hd', hge, d1, d2, e7]
          try rfl
        rw [hstep, hx, Bool.true_and]
        exact ih'
theorem rr8_run {l : List Int} {h : AH} (hl : l.length ≤ 1000000000) : run T 16 [.sl .sh (l.map encI)] h = some (.bool (rigP l), h) := by
  have e1 : decide ((l.length : Int) ≤ 6) = decide (l.length ≤ 6) := by congr 1; exact propext (by omega)
  rw [run_code T_16]
  unfold rigP
  rcases rr8_loop (h := h) hl l.length 0 (by omega) with ⟨h1, h2⟩ | ⟨h1, σ, h2, h3⟩
  · simp only [show ((0 : Nat) : Int) = 0 from rfl, List.drop_zero] at h1 h2
    rw [h1, Bool.and_true]
    simp (maxSteps := 2000000) -implicitDefEqProofs (disch := (refine id_ok ?_; first | assumption | omega | (simp only [go_sem, List.size_toArray, List.length_map, List.length_append, List.length_take, List.length_drop, List.length_cons, List.length_nil, mrLL_app, keyD_i, keyD_s, keyD_b, Nat.reduceAdd, Nat.reduceEqDiff, Nat.reduceLeDiff] <;> omega) | with_unfolding_all rfl | decide)) only [go_sem, Nat.reduceAdd, Nat.reduceSub, Nat.reduceMul, Nat.reduceLeDiff, Nat.reduceEqDiff, Nat.reduceBEq, reduceIte, reduceCtorEq, c_regencyref08_Right, List.length_map, h2, e1]
  · simp only [show ((0 : Nat) : Int) = 0 from rfl, List.drop_zero] at h1 h2
    rw [h1, Bool.and_false]
    simp (maxSteps := 2000000) -implicitDefEqProofs (disch := (refine id_ok ?_; first | assumption | omega | (simp only [go_sem, List.size_toArray, List.length_map, List.length_append, List.length_take, List.length_drop, List.length_cons, List.length_nil, mrLL_app, keyD_i, keyD_s, keyD_b, Nat.reduceAdd, Nat.reduceEqDiff, Nat.reduceLeDiff] <;> omega) | with_unfolding_all rfl | decide)) only [go_sem, Nat.reduceAdd, Nat.reduceSub, Nat.reduceMul, Nat.reduceLeDiff, Nat.reduceEqDiff, Nat.reduceBEq, reduceIte, reduceCtorEq, c_regencyref08_Right, List.length_map, h2, h3]
/-! ### texts -/
def ja : Nat → List Int → List UInt8
  | _, [] => []
  | i, k :: r => (if 0 < i then [46] else []) ++ (Lib.itoa k ++ ja (i + 1) r)
theorem ja_succ : ∀ (r : List Int) (i : Nat), ja (i + 1) r = if r = [] then [] else 46 :: joinP (r.map Lib.itoa)
  | [], i => by simp [ja]
  | [k], i => by simp [ja, joinP]
  | k :: k2 :: r, i => by
    have ih := ja_succ (k2 :: r) (i + 1)
    rw [ja, ih, if_pos (by omega), if_neg (by simp), if_neg (by simp)]
    simp only [List.map_cons, joinP, List.singleton_append]
theorem ja_0 (l : List Int) : ja 0 l = dotT l := by
  unfold dotT
  rw [← joinP_join]
  cases l with
  | nil => rfl
  | cons k r =>
    rw [ja, ja_succ, if_neg (by omega), List.nil_append]
    cases r with
    | nil => simp [joinP]
    | cons k2 r => rw [if_neg (by simp)]; simp only [List.map_cons, joinP]
def i64L (l : List Int) : Prop := ∀ k ∈ l, -9223372036854775808 ≤ k ∧ k ≤ 9223372036854775807
theorem rt8_loop {l : List Int} {h : AH} (hl : l.length ≤ 1000) (hi : i64L l) : ∀ (d i : Nat) (a : List UInt8), d + i = l.length → a.length ≤ 22 * i →
    den T (.loop l_regencyref08_Text_0) (s_regencyref08_Text_0 (.str ⟨a.toArray⟩) (.sl .sh (l.map encI)) (.int .i64 l.length) (.int .i64 i)) h = some (.exit 0, x_regencyref08_Text_0 (.str ⟨(a ++ ja i (l.drop i)).toArray⟩), h) := by
  intro d
  induction d with
  | zero =>
    intro i a hd ha
    have hd' : decide ((i : Int) < l.length) = false := decide_eq_false (by omega)
    rw [List.drop_eq_nil_of_le (by omega), ja, List.append_nil]
    rw [lp_round]
    simp -implicitDefEqProofs (disch := (refine id_ok ?_; first | assumption | omega | (simp only [go_sem, List.size_toArray, List.length_map, List.length_append, List.length_take, List.length_drop, List.length_cons, List.length_nil, mrLL_app, keyD_i, keyD_s, keyD_b, Nat.reduceAdd, Nat.reduceEqDiff, Nat.reduceLeDiff] <;> omega) | with_unfolding_all rfl | decide)) only [go_sem, Nat.reduceAdd, Nat.reduceSub, Nat.reduceMul, Nat.reduceLeDiff, Nat.reduceEqDiff, Nat.reduceBEq, reduceIte, reduceCtorEq, hd']
  | succ d ih =>
    intro i a hd ha
    have hib : i < l.length := by omega
    have hd' : decide ((i : Int) < l.length) = true := decide_eq_true (by omega)
    have hge : (l.map encI)[(i : Int).toNat]? = some (encI l[i]) := by simp [hib]
    have hdr : l.drop i = l[i] :: l.drop (i + 1) := List.drop_eq_getElem_cons hib
    have e7 := incP (n := i) (by omega)
    obtain ⟨r1, r2⟩ := hi l[i] (List.getElem_mem hib)
    rw [hdr, ja]
    generalize l[i] = x at *
    have hn := numI_run (n := x) (h := []) r1 r2
    have hil := itoa_len r1 r2
    simp only [encI] at hge
    by_cases h0 : 0 < i
    · have d1 : decide ((i : Int) > 0) = true := decide_eq_true (by omega)
      have ih' := ih (i + 1) (a ++ [46] ++ Lib.itoa x) (by omega) (by simp only [List.length_append, List.length_cons, List.length_nil]; omega)
      rw [if_pos h0]
      rw [show a ++ ([46] ++ (Lib.itoa x ++ ja (i + 1) (List.drop (i + 1) l))) = a ++ [46] ++ Lib.itoa x ++ ja (i + 1) (List.drop (i + 1) l) by simp only [List.append_assoc]]
      have e46 : (⟨#[46]⟩ : ByteArray) = ⟨([46] : List UInt8).toArray⟩ := rfl
      rw [lp_round]
      simp (maxSteps := 2000000) -implicitDefEqProofs (disch := (refine id_ok ?_; first | assumption | omega | (simp only [go_sem, List.size_toArray, List.length_map, List.length_append, List.length_take, List.length_drop, List.length_cons, List.length_nil, mrLL_app, keyD_i, keyD_s, keyD_b, Nat.reduceAdd, Nat.reduceEqDiff, Nat.reduceLeDiff] <;> omega) | with_unfolding_all rfl | decide)) only [go_sem, Nat.reduceAdd, Nat.reduceSub, Nat.reduceMul, Nat.reduceLeDiff, Nat.reduceEqDiff, Nat.reduceBEq, reduceIte, reduceCtorEq, hd', hge, d1, hn, e7, e46]
      simp only [List.append_assoc, List.cons_append, List.nil_append] at ih'
      exact ih'
    · have d1 : decide ((i : Int) > 0) = false := decide_eq_false (by omega)
      have ih' := ih (i + 1) (a ++ Lib.itoa x) (by omega) (by simp only [List.length_append]; omega)
      rw [if_neg h0, List.nil_append, ← List.append_assoc]
      rw [lp_round]
      simp (maxSteps := 2000000) -implicitDefEqProofs (disch := (refine id_ok ?_; first | assumption | omega | (simp only [go_sem, List.size_toArray, List.length_map, List.length_append, List.length_take, List.length_drop, List.length_cons, List.length_nil, mrLL_app, keyD_i, keyD_s, keyD_b, Nat.reduceAdd, Nat.reduceEqDiff, Nat.reduceLeDiff] <;> omega) | with_unfolding_all rfl | decide)) only [go_sem, Nat.reduceAdd, Nat.reduceSub, Nat.reduceMul, Nat.reduceLeDiff, Nat.reduceEqDiff, Nat.reduceBEq, reduceIte, reduceCtorEq, hd', hge, d1, hn, e7]
      rw [List.append_assoc] at ih'
      exact ih'
theorem rt8_run {l : List Int} {h : AH} (hl : l.length ≤ 1000) (hi : i64L l) : run T 18 [.sl .sh (l.map encI)] h = some (.str ⟨(dotT l).toArray⟩, h) := by
  have h1 := rt8_loop (h := h) hl hi l.length 0 [] (by omega) (by simp)
  simp only [show ((0 : Nat) : Int) = 0 from rfl, List.drop_zero, List.nil_append, ja_0] at h1
  rw [run_code T_18]
  simp (maxSteps := 2000000) -implicitDefEqProofs (disch := (refine id_ok ?_; first | assumption | omega | (simp only [go_sem, List.size_toArray, List.length_map, List.length_append, List.length_take, List.length_drop, List.length_cons, List.length_nil, mrLL_app, keyD_i, keyD_s, keyD_b, Nat.reduceAdd, Nat.reduceEqDiff, Nat.reduceLeDiff] <;> omega) | with_unfolding_all rfl | decide)) only [go_sem, Nat.reduceAdd, Nat.reduceSub, Nat.reduceMul, Nat.reduceLeDiff, Nat.reduceEqDiff, Nat.reduceBEq, reduceIte, reduceCtorEq, c_regencyref08_Text, List.length_map, h1]
/-! ### bytes -/
theorem rp8_loop {l : List Int} {h : AH} (hl : l.length ≤ 1000) : ∀ (d i : Nat) (a : List UInt8), d + i = l.length → a.length ≤ 9 + 9 * i →
    den T (.loop l_regencyref08_Put_0) (s_regencyref08_Put_0 (.str ⟨a.toArray⟩) (.sl .sh (l.map encI)) (.int .i64 l.length) (.int .i64 i)) h = some (.exit 0, x_regencyref08_Put_0 (.str ⟨(a ++ (l.drop i).flatMap numA).toArray⟩), h) := by
  intro d
  induction d with
  | zero =>
    intro i a hd ha
    have hd' : decide ((i : Int) < l.length) = false := decide_eq_false (by omega)
    rw [List.drop_eq_nil_of_le (by omega), List.flatMap_nil, List.append_nil]
    rw [lp_round]
    simp -implicitDefEqProofs (disch := (refine id_ok ?_; first | assumption | omega | (simp only [go_sem, List.size_toArray, List.length_map, List.length_append, List.length_take, List.length_drop, List.length_cons, List.length_nil, mrLL_app, keyD_i, keyD_s, keyD_b, Nat.reduceAdd, Nat.reduceEqDiff, Nat.reduceLeDiff] <;> omega) | with_unfolding_all rfl | decide)) only [go_sem, Nat.reduceAdd, Nat.reduceSub, Nat.reduceMul, Nat.reduceLeDiff, Nat.reduceEqDiff, Nat.reduceBEq, reduceIte, reduceCtorEq, hd']
  | succ d ih =>
    intro i a hd ha
    have hib : i < l.length := by omega
    have hd' : decide ((i : Int) < l.length) = true := decide_eq_true (by omega)
    have hge : (l.map encI)[(i : Int).toNat]? = some (encI l[i]) := by simp [hib]
    have hdr : l.drop i = l[i] :: l.drop (i + 1) := List.drop_eq_getElem_cons hib
    have e7 := incP (n := i) (by omega)
    have hn9 := numA_len l[i]
    have ih' := ih (i + 1) (a ++ numA l[i]) (by omega) (by rw [List.length_append]; omega)
    rw [hdr, List.flatMap_cons, ← List.append_assoc]
    generalize l[i] = x at *
    simp only [encI] at hge
    by_cases h0 : 0 ≤ x
    · have d1 : decide (x ≥ 0) = true := decide_eq_true h0
      by_cases h1 : x ≤ 4611686018427387903
      · have d2 : decide (x ≤ 4611686018427387903) = true := decide_eq_true h1
        obtain ⟨u, rfl⟩ : ∃ u : Nat, x = u := ⟨x.toNat, by omega⟩
        have hu : numA (u : Int) = num u := by unfold numA; rw [if_pos ⟨h0, h1⟩, Int.toNat_natCast]
        rw [hu] at ih' hn9 ⊢
        have hn := rn_run u (h := []) (by omega)
        rw [lp_round]
        simp (maxSteps := 2000000) -implicitDefEqProofs (disch := (refine id_ok ?_; first | assumption | omega | (simp only [go_sem, List.size_toArray, List.length_map, List.length_append, List.length_take, List.length_drop, List.length_cons, List.length_nil, mrLL_app, keyD_i, keyD_s, keyD_b, Nat.reduceAdd, Nat.reduceEqDiff, Nat.reduceLeDiff] <;> omega) | with_unfolding_all rfl | decide)) only [go_sem, Nat.reduceAdd, Nat.reduceSub, Nat.reduceMul, Nat.reduceLeDiff, Nat.reduceEqDiff, Nat.reduceBEq, reduceIte, reduceCtorEq, hd', hge, d1, d2, hn, e7]
        rw [List.append_assoc] at ih'
        exact ih'
      · have d2 : decide (x ≤ 4611686018427387903) = false := decide_eq_false h1
        have hu : numA x = [] := by unfold numA; rw [if_neg (by omega)]
        rw [hu, List.append_nil] at ih' ⊢
        rw [lp_round]
        simp (maxSteps := 2000000) -implicitDefEqProofs (disch := (refine id_ok ?_; first | assumption | omega | (simp only [go_sem, List.size_toArray, List.length_map, List.length_append, List.length_take, List.length_drop, List.length_cons, List.length_nil, mrLL_app, keyD_i, keyD_s, keyD_b, Nat.reduceAdd, Nat.reduceEqDiff, Nat.reduceLeDiff] <;> omega) | with_unfolding_all rfl | decide)) only [go_sem, Nat.reduceAdd, Nat.reduceSub, Nat.reduceMul, Nat.reduceLeDiff, Nat.reduceEqDiff, Nat.reduceBEq, reduceIte, reduceCtorEq, hd', hge, d1, d2, e7]
        exact ih'
    · have d1 : decide (x ≥ 0) = false := decide_eq_false h0
      have hu : numA x = [] := by unfold numA; rw [if_neg (by omega)]
      rw [hu, List.append_nil] at ih' ⊢
      rw [lp_round]
      simp (maxSteps := 2000000) -implicitDefEqProofs (disch := (refine id_ok ?_; first | assumption | omega | (simp only [go_sem, List.size_toArray, List.length_map, List.length_append, List.length_take, List.length_drop, List.length_cons, List.length_nil, mrLL_app, keyD_i, keyD_s, keyD_b, Nat.reduceAdd, Nat.reduceEqDiff, Nat.reduceLeDiff] <;> omega) | with_unfolding_all rfl | decide)) only [go_sem, Nat.reduceAdd, Nat.reduceSub, Nat.reduceMul, Nat.reduceLeDiff, Nat.reduceEqDiff, Nat.reduceBEq, reduceIte, reduceCtorEq, hd', hge, d1, e7]
      exact ih'
theorem rp8_run {l : List Int} {h : AH} (hl : l.length ≤ 1000) : run T 23 [.sl .sh (l.map encI)] h = some (.str ⟨(bytA l).toArray⟩, h) := by
  have h9 := num_len (n := l.length) (by omega)
  have h1 := rp8_loop (h := h) hl l.length 0 (num l.length) (by omega) (by omega)
  have h2 := rn_run l.length (h := []) (by omega)
  simp only [show ((0 : Nat) : Int) = 0 from rfl, List.drop_zero] at h1
  rw [run_code T_23]
  unfold bytA
  simp (maxSteps := 2000000) -implicitDefEqProofs (disch := (refine id_ok ?_; first | assumption | omega | (simp only [go_sem, List.size_toArray, List.length_map, List.length_append, List.length_take, List.length_drop, List.length_cons, List.length_nil, mrLL_app, keyD_i, keyD_s, keyD_b, Nat.reduceAdd, Nat.reduceEqDiff, Nat.reduceLeDiff] <;> omega) | with_unfolding_all rfl | decide)) only [go_sem, Nat.reduceAdd, Nat.reduceSub, Nat.reduceMul, Nat.reduceLeDiff, Nat.reduceEqDiff, Nat.reduceBEq, reduceIte, reduceCtorEq, c_regencyref08_Put, List.length_map, h1, h2]
/-! ### a text parsed -/
theorem rq8_loop {s : List UInt8} {h : AH} (hs : s.length ≤ 1000000) : ∀ (k i n d : Nat) (p : List Int), k + i = s.length → n < 10 ^ d → d ≤ 7 → p.length ≤ i →
    (∃ q, refQ (s.drop i) n d p = some q ∧ den T (.loop l_regencyref08_Parse_0) (s_regencyref08_Parse_0 (.str ⟨s.toArray⟩) (ow (p.map encI)) (.int .i64 n) (.int .i64 d) (.int .i64 i)) h = some (.exit 0, x_regencyref08_Parse_0 (.str ⟨s.toArray⟩) (ow (q.map encI)), h)) ∨
    (refQ (s.drop i) n d p = none ∧ ∃ σ, den T (.loop l_regencyref08_Parse_0) (s_regencyref08_Parse_0 (.str ⟨s.toArray⟩) (ow (p.map encI)) (.int .i64 n) (.int .i64 d) (.int .i64 i)) h = some (.ret, σ, h) ∧ σ.getD 2 undefA = ow [] ∧ σ.getD 3 undefA = .bool false) := by
  intro k
  induction k with
  | zero =>
    intro i n d p hk hn hd hp
    have d1 : decide ((i : Int) ≤ s.length) = true := decide_eq_true (by omega)
    have d2 : ((i : Int) == (s.length : Int)) = true := by simp; omega
    have d3 : decide (((i + 1 : Nat) : Int) ≤ s.length) = false := decide_eq_false (by omega)
    have e7 := incP (n := i) (by omega)
    have e1 : (p ++ [(n : Int)]).map encI = p.map encI ++ [[.int .i64 (n : Int)]] := by simp [encI]
    refine .inl ⟨p ++ [(n : Int)], by rw [List.drop_eq_nil_of_le (by omega)]; rfl, ?_⟩
    rw [e1]
    rw [lp_round]
    simp (maxSteps := 2000000) -implicitDefEqProofs (disch := (refine id_ok ?_; first | assumption | omega | (simp only [go_sem, List.size_toArray, List.length_map, List.length_append, List.length_take, List.length_drop, List.length_cons, List.length_nil, mrLL_app, keyD_i, keyD_s, keyD_b, Nat.reduceAdd, Nat.reduceEqDiff, Nat.reduceLeDiff] <;> omega) | with_unfolding_all rfl | decide)) only [go_sem, Nat.reduceAdd, Nat.reduceSub, Nat.reduceMul, Nat.reduceLeDiff, Nat.reduceEqDiff, Nat.reduceBEq, reduceIte, reduceCtorEq, d1, d2, e7]
    rw [lp_round]
    simp (maxSteps := 2000000) -implicitDefEqProofs (disch := (refine id_ok ?_; first | assumption | omega | (simp only [go_sem, List.size_toArray, List.length_map, List.length_append, List.length_take, List.length_drop, List.length_cons, List.length_nil, mrLL_app, keyD_i, keyD_s, keyD_b, Nat.reduceAdd, Nat.reduceEqDiff, Nat.reduceLeDiff] <;> omega) | with_unfolding_all rfl | decide)) only [go_sem, Nat.reduceAdd, Nat.reduceSub, Nat.reduceMul, Nat.reduceLeDiff, Nat.reduceEqDiff, Nat.reduceBEq, reduceIte, reduceCtorEq, d3]
  | succ k ih =>
    intro i n d p hk hn hd hp
    have his : i < s.length := by omega
    have d1 : decide ((i : Int) ≤ s.length) = true := decide_eq_true (by omega)
    have d2 : ((i : Int) == (s.length : Int)) = false := by simp; omega
    have e7 := incP (n := i) (by omega)
    have hge : s[(i : Int).toNat]? = some s[i] := by simp [his]
    have hdr : s.drop i = s[i] :: s.drop (i + 1) := List.drop_eq_getElem_cons his
    rw [hdr, refQ]
    generalize s[i] = c at *
    have hcl := c.toNat_lt
    by_cases h46 : c = 46
    · have d3 : ((c.toNat : Int) == 46) = true := by rw [h46]; rfl
      have ih' := ih (i + 1) 0 0 (p ++ [(n : Int)]) (by omega) (by simp) (by omega) (by simp; omega)
      have e1 : (p ++ [(n : Int)]).map encI = p.map encI ++ [[.int .i64 (n : Int)]] := by simp [encI]
      rw [if_pos h46]
      rw [e1] at ih'
      have hstep : den T (.loop l_regencyref08_Parse_0) (s_regencyref08_Parse_0 (.str ⟨s.toArray⟩) (ow (p.map encI)) (.int .i64 n) (.int .i64 d) (.int .i64 i)) h = den T (.loop l_regencyref08_Parse_0) (s_regencyref08_Parse_0 (.str ⟨s.toArray⟩) (ow (p.map encI ++ [[.int .i64 (n : Int)]])) (.int .i64 ((0 : Nat) : Int)) (.int .i64 ((0 : Nat) : Int)) (.int .i64 (i + 1 : Nat))) h := by
        rw [lp_round]
        simp (maxSteps := 2000000) -implicitDefEqProofs (disch := (refine id_ok ?_; first | assumption | omega | (simp only [go_sem, List.size_toArray, List.length_map, List.length_append, List.length_take, List.length_drop, List.length_cons, List.length_nil, mrLL_app, keyD_i, keyD_s, keyD_b, Nat.reduceAdd, Nat.reduceEqDiff, Nat.reduceLeDiff] <;> omega) | with_unfolding_all rfl | decide)) only [go_sem, Nat.reduceAdd, Nat.reduceSub, Nat.reduceMul, Nat.reduceLeDiff, Nat.reduceEqDiff, Nat.reduceBEq, reduceIte, reduceCtorEq, d1, d2, hge, d3, e7]
        try rfl
      rw [hstep]
      exact ih'
    · have d3 : ((c.toNat : Int) == 46) = false := by
        rw [beq_eq_false_iff_ne]; intro z; exact h46 (UInt8.toNat_inj.1 (by simpa using (show c.toNat = 46 by omega)))
      have e5 := incP (n := d) (by omega)
      rw [if_neg h46]
      by_cases h48 : c.toNat < 48
      · have d4 : decide ((c.toNat : Int) < 48) = true := decide_eq_true (by omega)
        rw [if_pos (.inl h48)]
        refine .inr ⟨rfl, ?_⟩
        rw [lp_round]
        simp (maxSteps := 2000000) -implicitDefEqProofs (disch := (refine id_ok ?_; first | assumption | omega | (simp only [go_sem, List.size_toArray, List.length_map, List.length_append, List.length_take, List.length_drop, List.length_cons, List.length_nil, mrLL_app, keyD_i, keyD_s, keyD_b, Nat.reduceAdd, Nat.reduceEqDiff, Nat.reduceLeDiff] <;> omega) | with_unfolding_all rfl | decide)) only [go_sem, Nat.reduceAdd, Nat.reduceSub, Nat.reduceMul, Nat.reduceLeDiff, Nat.reduceEqDiff, Nat.reduceBEq, reduceIte, reduceCtorEq, d1, d2, hge, d3, e5, d4]
        exact ⟨_, rfl, rfl, rfl⟩
      · have d4 : decide ((c.toNat : Int) < 48) = false := decide_eq_false (by omega)
        by_cases h57 : 57 < c.toNat
        · have d5 : decide ((c.toNat : Int) > 57) = true := decide_eq_true (by omega)
          rw [if_pos (.inr (.inl h57))]
          refine .inr ⟨rfl, ?_⟩
          rw [lp_round]
          simp (maxSteps := 2000000) -implicitDefEqProofs (disch := (refine id_ok ?_; first | assumption | omega | (simp only [go_sem, List.size_toArray, List.length_map, List.length_append, List.length_take, List.length_drop, List.length_cons, List.length_nil, mrLL_app, keyD_i, keyD_s, keyD_b, Nat.reduceAdd, Nat.reduceEqDiff, Nat.reduceLeDiff] <;> omega) | with_unfolding_all rfl | decide)) only [go_sem, Nat.reduceAdd, Nat.reduceSub, Nat.reduceMul, Nat.reduceLeDiff, Nat.reduceEqDiff, Nat.reduceBEq, reduceIte, reduceCtorEq, d1, d2, hge, d3, e5, d4, d5]
          exact ⟨_, rfl, rfl, rfl⟩
        · have d5 : decide ((c.toNat : Int) > 57) = false := decide_eq_false (by omega)
          by_cases h7 : 7 < d + 1
          · have d6 : decide (((d + 1 : Nat) : Int) > 7) = true := decide_eq_true (by omega)
            rw [if_pos (.inr (.inr h7))]
            refine .inr ⟨rfl, ?_⟩
            rw [lp_round]
            simp (maxSteps := 2000000) -implicitDefEqProofs (disch := (refine id_ok ?_; first | assumption | omega | (simp only [go_sem, List.size_toArray, List.length_map, List.length_append, List.length_take, List.length_drop, List.length_cons, List.length_nil, mrLL_app, keyD_i, keyD_s, keyD_b, Nat.reduceAdd, Nat.reduceEqDiff, Nat.reduceLeDiff] <;> omega) | with_unfolding_all rfl | decide)) only [go_sem, Nat.reduceAdd, Nat.reduceSub, Nat.reduceMul, Nat.reduceLeDiff, Nat.reduceEqDiff, Nat.reduceBEq, reduceIte, reduceCtorEq, d1, d2, hge, d3, e5, d4, d5, d6]
            exact ⟨_, rfl, rfl, rfl⟩
          · have d6 : decide (((d + 1 : Nat) : Int) > 7) = false := decide_eq_false (by omega)
            rw [if_neg (by omega)]
            have hp7 : 10 ^ d ≤ 10 ^ 6 := Nat.pow_le_pow_right (by omega) (by omega)
            have ih' := ih (i + 1) (10 * n + (c.toNat - 48)) (d + 1) p (by omega) (by rw [Nat.pow_succ]; omega) (by omega) (by omega)
            have f1 : IntKind.i64.wrap (10 * (n : Int)) = ((10 * n : Nat) : Int) := by rw [w64 (by omega) (by omega)]; omega
            have f2 : IntKind.u8.wrap ((c.toNat : Int) - 48) = ((c.toNat - 48 : Nat) : Int) := by rw [w8]; omega
            have f3 : IntKind.i64.wrap ((c.toNat - 48 : Nat) : Int) = ((c.toNat - 48 : Nat) : Int) := w64 (by omega) (by omega)
            have f4 : IntKind.i64.wrap (((10 * n : Nat) : Int) + ((c.toNat - 48 : Nat) : Int)) = ((10 * n + (c.toNat - 48) : Nat) : Int) := by rw [w64 (by omega) (by omega)]; omega
            have hstep : den T (.loop l_regencyref08_Parse_0) (s_regencyref08_Parse_0 (.str ⟨s.toArray⟩) (ow (p.map encI)) (.int .i64 n) (.int .i64 d) (.int .i64 i)) h = den T (.loop l_regencyref08_Parse_0) (s_regencyref08_Parse_0 (.str ⟨s.toArray⟩) (ow (p.map encI)) (.int .i64 ((10 * n + (c.toNat - 48) : Nat) : Int)) (.int .i64 ((d + 1 : Nat) : Int)) (.int .i64 (i + 1 : Nat))) h := by
              rw [lp_round]
              simp (maxSteps := 2000000) -implicitDefEqProofs (disch := (refine id_ok ?_; first | assumption | omega | (simp only [go_sem, List.size_toArray, List.length_map, List.length_append, List.length_take, List.length_drop, List.length_cons, List.length_nil, mrLL_app, keyD_i, keyD_s, keyD_b, Nat.reduceAdd, Nat.reduceEqDiff, Nat.reduceLeDiff] <;> omega) | with_unfolding_all rfl | decide)) only [go_sem, Nat.reduceAdd, Nat.reduceSub, Nat.reduceMul, Nat.reduceLeDiff, Nat.reduceEqDiff, Nat.reduceBEq, reduceIte, reduceCtorEq, d1, d2, hge, d3, e5, d4, d5, d6, f1, f2, f3, f4, e7]
              try rfl
            rw [hstep]
            exact ih'
theorem refQ_len : ∀ (l : List UInt8) (n d : Nat) (p q : List Int), refQ l n d p = some q → q.length ≤ p.length + l.length + 1
  | [], n, d, p, q, h => by simp only [refQ, Option.some.injEq] at h; subst h; simp
  | c :: l, n, d, p, q, h => by
    simp only [refQ] at h
    split at h
    · have := refQ_len l _ _ _ _ h
      simp only [List.length_append, List.length_cons, List.length_nil] at this ⊢; omega
    · split at h
      · cases h
      · have := refQ_len l _ _ _ _ h
        simp only [List.length_cons]; omega
theorem rigP_i64 {l : List Int} (h : rigP l = true) : i64L l := fun k hk => by have := (rigP_all h).2 k hk; omega
theorem rq8_run {s : List UInt8} {h : AH} (hs : s.length ≤ 1000000) : run T 14 [.str ⟨s.toArray⟩] h = some (.tup [ow ((prsP s).1.map encI), .bool (prsP s).2], h) := by
  rw [← refP_eq]
  rw [run_code T_14]
  unfold refP
  by_cases h0 : s = []
  · have e1 : (s == []) = true := by rw [h0]; rfl
    rw [if_pos h0]
    simp (maxSteps := 2000000) -implicitDefEqProofs (disch := (refine id_ok ?_; first | assumption | omega | (simp only [go_sem, List.size_toArray, List.length_map, List.length_append, List.length_take, List.length_drop, List.length_cons, List.length_nil, mrLL_app, keyD_i, keyD_s, keyD_b, Nat.reduceAdd, Nat.reduceEqDiff, Nat.reduceLeDiff] <;> omega) | with_unfolding_all rfl | decide)) only [go_sem, Nat.reduceAdd, Nat.reduceSub, Nat.reduceMul, Nat.reduceLeDiff, Nat.reduceEqDiff, Nat.reduceBEq, reduceIte, reduceCtorEq, c_regencyref08_Parse, e1, List.map_nil]
  · have e1 : (s == []) = false := by simpa using h0
    rw [if_neg h0]
    rcases rq8_loop (h := h) hs s.length 0 0 0 [] (by omega) (by simp) (by omega) (by simp) with ⟨q, h1, h2⟩ | ⟨h1, σ, h2, h3, h4⟩
    · simp only [show ((0 : Nat) : Int) = 0 from rfl, List.drop_zero, List.map_nil] at h1 h2
      rw [h1]
      simp only
      have hql := refQ_len _ _ _ _ _ h1
      simp only [List.length_nil] at hql
      have h5 := fun h => rr8_run (l := q) (h := h) (by omega)
      cases hr : rigP q with
      | false =>
        rw [hr] at h5
        rw [if_neg (by simp)]
        simp (maxSteps := 2000000) -implicitDefEqProofs (disch := (refine id_ok ?_; first | assumption | omega | (simp only [go_sem, List.size_toArray, List.length_map, List.length_append, List.length_take, List.length_drop, List.length_cons, List.length_nil, mrLL_app, keyD_i, keyD_s, keyD_b, Nat.reduceAdd, Nat.reduceEqDiff, Nat.reduceLeDiff] <;> omega) | with_unfolding_all rfl | decide)) only [go_sem, Nat.reduceAdd, Nat.reduceSub, Nat.reduceMul, Nat.reduceLeDiff, Nat.reduceEqDiff, Nat.reduceBEq, reduceIte, reduceCtorEq, c_regencyref08_Parse, e1, h2, h5, List.map_nil]
      | true =>
        rw [hr] at h5
        have h6 := fun h => rt8_run (l := q) (h := h) (by have := (rigP_all hr).1; omega) (rigP_i64 hr)
        by_cases hd : dotT q = s
        · have e2 : (dotT q == s) = true := by simp [hd]
          rw [if_pos ⟨rfl, hd⟩]
          simp (maxSteps := 2000000) -implicitDefEqProofs (disch := (refine id_ok ?_; first | assumption | omega | (simp only [go_sem, List.size_toArray, List.length_map, List.length_append, List.length_take, List.length_drop, List.length_cons, List.length_nil, mrLL_app, keyD_i, keyD_s, keyD_b, Nat.reduceAdd, Nat.reduceEqDiff, Nat.reduceLeDiff] <;> omega) | with_unfolding_all rfl | decide)) only [go_sem, Nat.reduceAdd, Nat.reduceSub, Nat.reduceMul, Nat.reduceLeDiff, Nat.reduceEqDiff, Nat.reduceBEq, reduceIte, reduceCtorEq, c_regencyref08_Parse, e1, h2, h5, h6, e2, Bool.not_true]
        · have e2 : (dotT q == s) = false := by simp [hd]
          rw [if_neg (by simp [hd])]
          simp (maxSteps := 2000000) -implicitDefEqProofs (disch := (refine id_ok ?_; first | assumption | omega | (simp only [go_sem, List.size_toArray, List.length_map, List.length_append, List.length_take, List.length_drop, List.length_cons, List.length_nil, mrLL_app, keyD_i, keyD_s, keyD_b, Nat.reduceAdd, Nat.reduceEqDiff, Nat.reduceLeDiff] <;> omega) | with_unfolding_all rfl | decide)) only [go_sem, Nat.reduceAdd, Nat.reduceSub, Nat.reduceMul, Nat.reduceLeDiff, Nat.reduceEqDiff, Nat.reduceBEq, reduceIte, reduceCtorEq, c_regencyref08_Parse, e1, h2, h5, h6, e2, Bool.not_false, List.map_nil]
    · simp only [show ((0 : Nat) : Int) = 0 from rfl, List.drop_zero, List.map_nil] at h1 h2
      rw [h1]
      simp (maxSteps := 2000000) -implicitDefEqProofs (disch := (refine id_ok ?_; first | assumption | omega | (simp only [go_sem, List.size_toArray, List.length_map, List.length_append, List.length_take, List.length_drop, List.length_cons, List.length_nil, mrLL_app, keyD_i, keyD_s, keyD_b, Nat.reduceAdd, Nat.reduceEqDiff, Nat.reduceLeDiff] <;> omega) | with_unfolding_all rfl | decide)) only [go_sem, Nat.reduceAdd, Nat.reduceSub, Nat.reduceMul, Nat.reduceLeDiff, Nat.reduceEqDiff, Nat.reduceBEq, reduceIte, reduceCtorEq, c_regencyref08_Parse, e1, h2, h3, h4, List.map_nil]
end Go.Proofs.YtjeigcnaalleiaaDoor.L
