/- The document's categories compared; its right labels. -/
import Derived.Test.YtjeigcnaalleiaaGreatDoorL40
import Derived.Test.YtjeigcnaalleiaaGreatDoorL30
set_option linter.all false
set_option maxRecDepth 100000
namespace Go.Proofs.YtjeigcnaalleiaaGreatDoor.L
open Go.Proofs.YtjeigcnaalleiaaGreatDoor.M Go.Proofs.YtjeigcnaalleiaaGreatDoor.F Go.Proofs

def HA (p : List Int) (m : Int) (q : List Int) (n : Int) : AH := [.cells [.sl .sh (p.map encI), .int .i64 m], .cells [.sl .sh (q.map encI), .int .i64 n]]
set_option maxHeartbeats 4000000 in
theorem ahd_loop {p q : List Int} {m n : Int} (hp : p.length ≤ 1000) (hq : q.length ≤ 1000) : ∀ (d i : Nat), d + i = p.length → i ≤ q.length →
    ∃ σ, den T (.loop l_regencyref05_Ahead_0) (s_regencyref05_Ahead_0 (.box 0 0) (.box 1 0) (.int .i64 i)) (HA p m q n) = some (.ret, σ, HA p m q n) ∧ σ.getD 4 undefA = .bool (ahdC (p.drop i) m (q.drop i) n) := by
  intro d
  induction d with
  | zero =>
    intro i hd hi
    have e1 : ((i : Int) == (p.length : Int)) = true := by simp; omega
    rw [List.drop_eq_nil_of_le (show p.length ≤ i by omega)]
    by_cases hl : q.length = i
    · have e2 : ((p.length : Int) != (q.length : Int)) = false := by simp; omega
      rw [List.drop_eq_nil_of_le (show q.length ≤ i by omega)]
      simp only [ahdC]
      rw [lp_round]
      simp (maxSteps := 2000000) -implicitDefEqProofs (disch := (refine id_ok ?_; first | assumption | omega | (simp only [go_sem, List.size_toArray, List.length_map, List.length_append, List.length_take, List.length_drop, List.length_cons, List.length_nil, mrLL_app, keyD_i, keyD_s, keyD_b, Nat.reduceAdd, Nat.reduceEqDiff, Nat.reduceLeDiff] <;> omega) | with_unfolding_all rfl | decide)) only [go_sem, Nat.reduceAdd, Nat.reduceSub, Nat.reduceMul, Nat.reduceLeDiff, Nat.reduceEqDiff, Nat.reduceBEq, reduceIte, reduceCtorEq, HA, List.length_map, e1, e2]
      exact ⟨_, rfl, rfl⟩
    · have e2 : ((p.length : Int) != (q.length : Int)) = true := by simp; omega
      rw [List.drop_eq_getElem_cons (show i < q.length by omega)]
      simp only [ahdC]
      rw [lp_round]
      simp (maxSteps := 2000000) -implicitDefEqProofs (disch := (refine id_ok ?_; first | assumption | omega | (simp only [go_sem, List.size_toArray, List.length_map, List.length_append, List.length_take, List.length_drop, List.length_cons, List.length_nil, mrLL_app, keyD_i, keyD_s, keyD_b, Nat.reduceAdd, Nat.reduceEqDiff, Nat.reduceLeDiff] <;> omega) | with_unfolding_all rfl | decide)) only [go_sem, Nat.reduceAdd, Nat.reduceSub, Nat.reduceMul, Nat.reduceLeDiff, Nat.reduceEqDiff, Nat.reduceBEq, reduceIte, reduceCtorEq, HA, List.length_map, e1, e2]
      exact ⟨_, rfl, rfl⟩
  | succ d ih =>
    intro i hd hi
    have hib : i < p.length := by omega
    have e1 : ((i : Int) == (p.length : Int)) = false := by simp; omega
    have hgp : (p.map encI)[(i : Int).toNat]? = some (encI p[i]) := by simp [hib]
    have hdp : p.drop i = p[i] :: p.drop (i + 1) := List.drop_eq_getElem_cons hib
    rw [hdp]
    generalize p[i] = x at *
    by_cases hl : q.length = i
    · have e3 : ((i : Int) == (q.length : Int)) = true := by simp; omega
      have e2 : ((p.length : Int) != (q.length : Int)) = true := by simp; omega
      rw [List.drop_eq_nil_of_le (show q.length ≤ i by omega)]
      simp only [ahdC]
      rw [lp_round]
      simp (maxSteps := 2000000) -implicitDefEqProofs (disch := (refine id_ok ?_; first | assumption | omega | (simp only [go_sem, List.size_toArray, List.length_map, List.length_append, List.length_take, List.length_drop, List.length_cons, List.length_nil, mrLL_app, keyD_i, keyD_s, keyD_b, Nat.reduceAdd, Nat.reduceEqDiff, Nat.reduceLeDiff] <;> omega) | with_unfolding_all rfl | decide)) only [go_sem, Nat.reduceAdd, Nat.reduceSub, Nat.reduceMul, Nat.reduceLeDiff, Nat.reduceEqDiff, Nat.reduceBEq, reduceIte, reduceCtorEq, HA, List.length_map, e1, e2, e3]
      exact ⟨_, rfl, rfl⟩
    · have hiq : i < q.length := by omega
      have e3 : ((i : Int) == (q.length : Int)) = false := by simp; omega
      have hgq : (q.map encI)[(i : Int).toNat]? = some (encI q[i]) := by simp [hiq]
      have hdq : q.drop i = q[i] :: q.drop (i + 1) := List.drop_eq_getElem_cons hiq
      rw [hdq]
      generalize q[i] = y at *
      have e7 := inc64 (n := i) (by omega)
      simp only [ahdC]
      by_cases hxy : x = y
      · have e4 : (x != y) = false := by simp [hxy]
        rw [if_pos hxy]
        have := ih (i + 1) (by omega) (by omega)
        simp only [HA] at this ⊢
        rw [lp_round]
        simp (maxSteps := 2000000) -implicitDefEqProofs (disch := (refine id_ok ?_; first | assumption | omega | (simp only [go_sem, List.size_toArray, List.length_map, List.length_append, List.length_take, List.length_drop, List.length_cons, List.length_nil, mrLL_app, keyD_i, keyD_s, keyD_b, Nat.reduceAdd, Nat.reduceEqDiff, Nat.reduceLeDiff] <;> omega) | with_unfolding_all rfl | decide)) only [go_sem, Nat.reduceAdd, Nat.reduceSub, Nat.reduceMul, Nat.reduceLeDiff, Nat.reduceEqDiff, Nat.reduceBEq, reduceIte, reduceCtorEq, List.length_map, e1, e3, hgp, hgq, encI, e4, e7]
        exact this
      · have e4 : (x != y) = true := by simp [hxy]
        rw [if_neg hxy]
        rw [lp_round]
        simp (maxSteps := 2000000) -implicitDefEqProofs (disch := (refine id_ok ?_; first | assumption | omega | (simp only [go_sem, List.size_toArray, List.length_map, List.length_append, List.length_take, List.length_drop, List.length_cons, List.length_nil, mrLL_app, keyD_i, keyD_s, keyD_b, Nat.reduceAdd, Nat.reduceEqDiff, Nat.reduceLeDiff] <;> omega) | with_unfolding_all rfl | decide)) only [go_sem, Nat.reduceAdd, Nat.reduceSub, Nat.reduceMul, Nat.reduceLeDiff, Nat.reduceEqDiff, Nat.reduceBEq, reduceIte, reduceCtorEq, HA, List.length_map, e1, e3, hgp, hgq, encI, e4]
        exact ⟨_, rfl, rfl⟩
theorem ahd_run {p q : List Int} {m n : Int} (hp : p.length ≤ 1000) (hq : q.length ≤ 1000) : run T 95 [.agg [.sl .sh (p.map encI), .int .i64 m], .agg [.sl .sh (q.map encI), .int .i64 n]] [] = some (.bool (ahdC p m q n), []) := by
  obtain ⟨σ, h1, h2⟩ := ahd_loop (m := m) (n := n) hp hq p.length 0 (by omega) (by omega)
  simp only [List.drop_zero, show ((0 : Nat) : Int) = 0 from rfl, HA] at h1 h2
  rw [run_code T_95]
  simp (maxSteps := 2000000) -implicitDefEqProofs (disch := (refine id_ok ?_; first | assumption | omega | (simp only [go_sem, List.size_toArray, List.length_map, List.length_append, List.length_take, List.length_drop, List.length_cons, List.length_nil, mrLL_app, keyD_i, keyD_s, keyD_b, Nat.reduceAdd, Nat.reduceEqDiff, Nat.reduceLeDiff] <;> omega) | with_unfolding_all rfl | decide)) only [go_sem, Nat.reduceAdd, Nat.reduceSub, Nat.reduceMul, Nat.reduceLeDiff, Nat.reduceEqDiff, Nat.reduceBEq, reduceIte, reduceCtorEq, c_regencyref05_Ahead, h1, h2]
def cmpR (a b : List UInt8) : Int := if ahdC (parC a).1 (parC a).2.1 (parC b).1 (parC b).2.1 = true then -1 else if a = b then 0 else 1
theorem cmpR_run {a b : List UInt8} {h : AH} (ha : a.length ≤ 1000000000) (hb : b.length ≤ 1000000000) (ra : rigC a = true) (rb : rigC b = true) : run T 78 [.str ⟨a.toArray⟩, .str ⟨b.toArray⟩] h = some (.int .i64 (cmpR a b), h) := by
  have h1 := refC_run ha
  have h2 := refC_run hb
  have l1 := parC_len a
  have l2 := parC_len b
  unfold rigC at ra rb
  rw [ra] at h1
  rw [rb] at h2
  have h3 := ahd_run (p := (parC a).1) (m := (parC a).2.1) (q := (parC b).1) (n := (parC b).2.1) (by omega) (by omega)
  rw [run_code T_78]
  unfold cmpR
  generalize (parC a).1 = p at *
  generalize (parC a).2.1 = m at *
  generalize (parC b).1 = q at *
  generalize (parC b).2.1 = n at *
  cases ho : ahdC p m q n with
  | true =>
    rw [ho] at h3
    simp only [if_true]
    simp (maxSteps := 2000000) -implicitDefEqProofs (disch := (refine id_ok ?_; first | assumption | omega | (simp only [go_sem, List.size_toArray, List.length_map, List.length_append, List.length_take, List.length_drop, List.length_cons, List.length_nil, mrLL_app, keyD_i, keyD_s, keyD_b, Nat.reduceAdd, Nat.reduceEqDiff, Nat.reduceLeDiff] <;> omega) | with_unfolding_all rfl | decide)) only [go_sem, Nat.reduceAdd, Nat.reduceSub, Nat.reduceMul, Nat.reduceLeDiff, Nat.reduceEqDiff, Nat.reduceBEq, reduceIte, reduceCtorEq, c_regencyref05_Compare, app_get, app_set, app_get0, app_set0, h1, h2, h3]
  | false =>
    rw [ho] at h3
    by_cases hab : a = b
    · have e1 : (a == b) = true := by simp [hab]
      simp only [Bool.false_eq_true, if_false]
      rw [if_pos hab]
      simp (maxSteps := 2000000) -implicitDefEqProofs (disch := (refine id_ok ?_; first | assumption | omega | (simp only [go_sem, List.size_toArray, List.length_map, List.length_append, List.length_take, List.length_drop, List.length_cons, List.length_nil, mrLL_app, keyD_i, keyD_s, keyD_b, Nat.reduceAdd, Nat.reduceEqDiff, Nat.reduceLeDiff] <;> omega) | with_unfolding_all rfl | decide)) only [go_sem, Nat.reduceAdd, Nat.reduceSub, Nat.reduceMul, Nat.reduceLeDiff, Nat.reduceEqDiff, Nat.reduceBEq, reduceIte, reduceCtorEq, c_regencyref05_Compare, app_get, app_set, app_get0, app_set0, h1, h2, h3, e1]
    · have e1 : (a == b) = false := by simp [hab]
      simp only [Bool.false_eq_true, if_false]
      rw [if_neg hab]
      simp (maxSteps := 2000000) -implicitDefEqProofs (disch := (refine id_ok ?_; first | assumption | omega | (simp only [go_sem, List.size_toArray, List.length_map, List.length_append, List.length_take, List.length_drop, List.length_cons, List.length_nil, mrLL_app, keyD_i, keyD_s, keyD_b, Nat.reduceAdd, Nat.reduceEqDiff, Nat.reduceLeDiff] <;> omega) | with_unfolding_all rfl | decide)) only [go_sem, Nat.reduceAdd, Nat.reduceSub, Nat.reduceMul, Nat.reduceLeDiff, Nat.reduceEqDiff, Nat.reduceBEq, reduceIte, reduceCtorEq, c_regencyref05_Compare, app_get, app_set, app_get0, app_set0, h1, h2, h3, e1]
theorem cmpR_com {a b : List UInt8} (ra : rigC a = true) (rb : rigC b = true) : (cmpR a b != -1) = !decide (comC a b < 0) := by
  have h := comC_ahd ra rb
  unfold cmpR
  split
  · rename_i hc
    rw [decide_eq_true (h.2 hc)]; rfl
  · rename_i hc
    rw [decide_eq_false (fun x => hc (h.1 x))]
    split <;> rfl
set_option maxHeartbeats 4000000 in
theorem rrig_loop {l : List Ent} {h : AH} (hl : ∀ e ∈ l, e.1.length ≤ 1000000000) (h8 : l.length ≤ 8) : ∀ (d i : Nat), d + i = l.length → (∀ p, prvE l i = some p → rigC p = true) →
    (rigE (prvE l i) (l.drop i) = true ∧ den T (.loop l_regencyref06_Right_0) (s_regencyref06_Right_0 (.sl .sh (l.map encE)) (.int .i64 l.length) (.int .i64 i)) h = some (.exit 0, x_regencyref06_Right_0, h)) ∨
    ∃ σ, den T (.loop l_regencyref06_Right_0) (s_regencyref06_Right_0 (.sl .sh (l.map encE)) (.int .i64 l.length) (.int .i64 i)) h = some (.ret, σ, h) ∧ σ.getD 2 undefA = .bool false ∧ rigE (prvE l i) (l.drop i) = false := by
  intro d
  induction d with
  | zero =>
    intro i hd _
    have hd' : decide ((i : Int) < l.length) = false := decide_eq_false (by omega)
    refine .inl ⟨by rw [List.drop_eq_nil_of_le (by omega)]; rfl, ?_⟩
    rw [lp_round]
    simp -implicitDefEqProofs (disch := (refine id_ok ?_; first | assumption | omega | (simp only [go_sem, List.size_toArray, List.length_map, List.length_append, List.length_take, List.length_drop, List.length_cons, List.length_nil, mrLL_app, keyD_i, keyD_s, keyD_b, Nat.reduceAdd, Nat.reduceEqDiff, Nat.reduceLeDiff] <;> omega) | with_unfolding_all rfl | decide)) only [go_sem, Nat.reduceAdd, Nat.reduceSub, Nat.reduceMul, Nat.reduceLeDiff, Nat.reduceEqDiff, Nat.reduceBEq, reduceIte, reduceCtorEq, hd']
  | succ d ih =>
    intro i hd hpv
    have hib : i < l.length := by omega
    have hd' : decide ((i : Int) < l.length) = true := decide_eq_true (by omega)
    have hge : (l.map encE)[(i : Int).toNat]? = some (encE l[i]) := by simp [hib]
    have hdr : l.drop i = l[i] :: l.drop (i + 1) := List.drop_eq_getElem_cons hib
    have hpr : prvE l (i + 1) = some l[i].1 := by simp [prvE, hib]
    have hcl := hl l[i] (by simp)
    have ih' := ih (i + 1) (by omega)
    rw [hpr] at ih'
    have hprv : i ≠ 0 → ∃ p : Ent, (l.map encE)[((i : Int) - 1).toNat]? = some (encE p) ∧ prvE l i = some p.1 ∧ p.1.length ≤ 1000000000 := by
      intro h0
      have hj : i - 1 < l.length := by omega
      refine ⟨l[i - 1], ?_, ?_, hl _ (by simp)⟩
      · rw [show ((i : Int) - 1).toNat = i - 1 by omega]; simp [hj]
      · simp [prvE, h0, hj]
    rw [hdr]
    generalize l[i] = e at *
    obtain ⟨c, v⟩ := e
    simp only at hcl ih' hpr
    have h1 := isCat_run (h := []) hcl
    simp only [rigE]
    cases hc : rigC c with
    | false =>
      rw [hc] at h1
      right
      rw [lp_round]
      simp (maxSteps := 2000000) -implicitDefEqProofs (disch := (refine id_ok ?_; first | assumption | omega | (simp only [go_sem, List.size_toArray, List.length_map, List.length_append, List.length_take, List.length_drop, List.length_cons, List.length_nil, mrLL_app, keyD_i, keyD_s, keyD_b, Nat.reduceAdd, Nat.reduceEqDiff, Nat.reduceLeDiff] <;> omega) | with_unfolding_all rfl | decide)) only [go_sem, Nat.reduceAdd, Nat.reduceSub, Nat.reduceMul, Nat.reduceLeDiff, Nat.reduceEqDiff, Nat.reduceBEq, reduceIte, reduceCtorEq, hd', hge, encE, h1]
      exact ⟨_, rfl, rfl, rfl⟩
    | true =>
      rw [hc] at h1
      have ih'' := ih' (fun p hp => by cases hp; exact hc)
      have hlv : ∃ b0 b2 b3 : Bool, (v != 0) = b0 ∧ (v != 2) = b2 ∧ (v != 3) = b3 ∧ (!(v == 1) && decide (0 ≤ v) && decide (v < 4)) = !(b0 && (b2 && b3)) := by
        refine ⟨_, _, _, rfl, rfl, rfl, ?_⟩
        by_cases q0 : v = 0
        · subst q0; rfl
        · by_cases q2 : v = 2
          · subst q2; rfl
          · by_cases q3 : v = 3
            · subst q3; rfl
            · have : (v != 0 && (v != 2 && v != 3)) = true := by simp [q0, q2, q3]
              rw [this]
              by_cases q1 : v = 1
              · subst q1; rfl
              · by_cases q4 : 0 ≤ v
                · rw [decide_eq_false (show ¬ v < 4 by omega)]; simp
                · rw [decide_eq_false q4]; simp
      obtain ⟨b0, b2, b3, e0, e2, e3, hlv⟩ := hlv
      rw [Bool.true_and, hlv]
      have hbad : (b0 && (b2 && b3)) = true ∨ (b0 && (b2 && b3)) = false := by cases b0 <;> cases b2 <;> cases b3 <;> simp
      rcases hbad with hb | hb
      · obtain ⟨rfl, rfl, rfl⟩ : b0 = true ∧ b2 = true ∧ b3 = true := by simpa using hb
        right
        rw [lp_round]
        simp (maxSteps := 2000000) -implicitDefEqProofs (disch := (refine id_ok ?_; first | assumption | omega | (simp only [go_sem, List.size_toArray, List.length_map, List.length_append, List.length_take, List.length_drop, List.length_cons, List.length_nil, mrLL_app, keyD_i, keyD_s, keyD_b, Nat.reduceAdd, Nat.reduceEqDiff, Nat.reduceLeDiff] <;> omega) | with_unfolding_all rfl | decide)) only [go_sem, Nat.reduceAdd, Nat.reduceSub, Nat.reduceMul, Nat.reduceLeDiff, Nat.reduceEqDiff, Nat.reduceBEq, reduceIte, reduceCtorEq, hd', hge, encE, h1, e0, e2, e3]
        exact ⟨_, rfl, rfl, rfl⟩
      · have e7 := inc64 (n := i) (by omega)
        rw [hb]
        simp only [Bool.not_false, Bool.true_and]
        by_cases h0 : i = 0
        · have e4 : decide ((i : Int) > 0) = false := decide_eq_false (by omega)
          have hp0 : prvE l i = none := by simp [prvE, h0]
          rw [hp0]
          simp only [Bool.true_and]
          have hstep : den T (.loop l_regencyref06_Right_0) (s_regencyref06_Right_0 (.sl .sh (l.map encE)) (.int .i64 l.length) (.int .i64 i)) h = den T (.loop l_regencyref06_Right_0) (s_regencyref06_Right_0 (.sl .sh (l.map encE)) (.int .i64 l.length) (.int .i64 (i + 1 : Nat))) h := by
            cases b0 <;> cases b2 <;> cases b3 <;> first
              | (simp at hb; done)
              | (rw [lp_round]
                 simp (maxSteps := 2000000) -implicitDefEqProofs (disch := (refine id_ok ?_; first | assumption | omega | (simp only [go_sem, List.size_toArray, List.length_map, List.length_append, List.length_take, List.length_drop, List.length_cons, List.length_nil, mrLL_app, keyD_i, keyD_s, keyD_b, Nat.reduceAdd, Nat.reduceEqDiff, Nat.reduceLeDiff] <;> omega) | with_unfolding_all rfl | decide)) only [go_sem, Nat.reduceAdd, Nat.reduceSub, Nat.reduceMul, Nat.reduceLeDiff, Nat.reduceEqDiff, Nat.reduceBEq, reduceIte, reduceCtorEq, hd', hge, encE, h1, e0, e2, e3, e4, e7])
          rw [hstep]
          exact ih''
        · have e4 : decide ((i : Int) > 0) = true := decide_eq_true (by omega)
          obtain ⟨q, hq1, hq2, hq3⟩ := hprv h0
          have hrq := hpv _ hq2
          have ha := cmpR_run (h := []) hq3 hcl hrq hc
          have hcc := cmpR_com hrq hc
          have e5 : IntKind.i64.wrap ((i : Int) - 1) = (i : Int) - 1 := w64 (by omega) (by omega)
          rw [hq2]
          simp only
          simp only [encE] at hq1
          cases hco : decide (comC q.1 c < 0) with
          | true =>
            rw [hco, Bool.not_true] at hcc
            simp only [Bool.true_and]
            have hstep : den T (.loop l_regencyref06_Right_0) (s_regencyref06_Right_0 (.sl .sh (l.map encE)) (.int .i64 l.length) (.int .i64 i)) h = den T (.loop l_regencyref06_Right_0) (s_regencyref06_Right_0 (.sl .sh (l.map encE)) (.int .i64 l.length) (.int .i64 (i + 1 : Nat))) h := by
              cases b0 <;> cases b2 <;> cases b3 <;> first
                | (simp at hb; done)
                | (rw [lp_round]
                   simp (maxSteps := 2000000) -implicitDefEqProofs (disch := (refine id_ok ?_; first | assumption | omega | (simp only [go_sem, List.size_toArray, List.length_map, List.length_append, List.length_take, List.length_drop, List.length_cons, List.length_nil, mrLL_app, keyD_i, keyD_s, keyD_b, Nat.reduceAdd, Nat.reduceEqDiff, Nat.reduceLeDiff] <;> omega) | with_unfolding_all rfl | decide)) only [go_sem, Nat.reduceAdd, Nat.reduceSub, Nat.reduceMul, Nat.reduceLeDiff, Nat.reduceEqDiff, Nat.reduceBEq, reduceIte, reduceCtorEq, hd', hge, encE, h1, e0, e2, e3, e4, e5, hq1, ha, hcc, e7])
            rw [hstep]
            exact ih''
          | false =>
            rw [hco, Bool.not_false] at hcc
            right
            simp only [Bool.false_and]
            cases b0 <;> cases b2 <;> cases b3 <;> first
                | (simp at hb; done)
                | (rw [lp_round]
                   simp (maxSteps := 2000000) -implicitDefEqProofs (disch := (refine id_ok ?_; first | assumption | omega | (simp only [go_sem, List.size_toArray, List.length_map, List.length_append, List.length_take, List.length_drop, List.length_cons, List.length_nil, mrLL_app, keyD_i, keyD_s, keyD_b, Nat.reduceAdd, Nat.reduceEqDiff, Nat.reduceLeDiff] <;> omega) | with_unfolding_all rfl | decide)) only [go_sem, Nat.reduceAdd, Nat.reduceSub, Nat.reduceMul, Nat.reduceLeDiff, Nat.reduceEqDiff, Nat.reduceBEq, reduceIte, reduceCtorEq, hd', hge, encE, h1, e0, e2, e3, e4, e5, hq1, ha, hcc]
                   exact ⟨_, rfl, rfl⟩)
theorem rrig_run {l : List Ent} {h : AH} (hl : ∀ e ∈ l, e.1.length ≤ 1000000000) : run T 49 [.sl .sh (l.map encE)] h = some (.bool (rigL l), h) := by
  rw [run_code T_49]
  unfold rigL
  by_cases h8 : l.length ≤ 8
  · have e1 : decide ((l.length : Int) > 8) = false := decide_eq_false (by omega)
    have hlp := rrig_loop (h := h) hl h8 l.length 0 (by omega) (fun p hp => by cases hp)
    simp only [List.drop_zero, show ((0 : Nat) : Int) = 0 from rfl, show prvE l 0 = none from rfl] at hlp
    rw [decide_eq_true h8, Bool.true_and]
    rcases hlp with ⟨h1, h2⟩ | ⟨σ, h1, h2, h3⟩
    · rw [h1]
      simp -implicitDefEqProofs (disch := (refine id_ok ?_; first | assumption | omega | (simp only [go_sem, List.size_toArray, List.length_map, List.length_append, List.length_take, List.length_drop, List.length_cons, List.length_nil, mrLL_app, keyD_i, keyD_s, keyD_b, Nat.reduceAdd, Nat.reduceEqDiff, Nat.reduceLeDiff] <;> omega) | with_unfolding_all rfl | decide)) only [go_sem, Nat.reduceAdd, Nat.reduceSub, Nat.reduceMul, Nat.reduceLeDiff, Nat.reduceEqDiff, Nat.reduceBEq, reduceIte, reduceCtorEq, c_regencyref06_Right, List.length_map, e1, h2]
    · rw [h3]
      simp -implicitDefEqProofs (disch := (refine id_ok ?_; first | assumption | omega | (simp only [go_sem, List.size_toArray, List.length_map, List.length_append, List.length_take, List.length_drop, List.length_cons, List.length_nil, mrLL_app, keyD_i, keyD_s, keyD_b, Nat.reduceAdd, Nat.reduceEqDiff, Nat.reduceLeDiff] <;> omega) | with_unfolding_all rfl | decide)) only [go_sem, Nat.reduceAdd, Nat.reduceSub, Nat.reduceMul, Nat.reduceLeDiff, Nat.reduceEqDiff, Nat.reduceBEq, reduceIte, reduceCtorEq, c_regencyref06_Right, List.length_map, e1, h1, h2]
  · have e1 : decide ((l.length : Int) > 8) = true := decide_eq_true (by omega)
    rw [decide_eq_false h8, Bool.false_and]
    simp -implicitDefEqProofs (disch := (refine id_ok ?_; first | assumption | omega | (simp only [go_sem, List.size_toArray, List.length_map, List.length_append, List.length_take, List.length_drop, List.length_cons, List.length_nil, mrLL_app, keyD_i, keyD_s, keyD_b, Nat.reduceAdd, Nat.reduceEqDiff, Nat.reduceLeDiff] <;> omega) | with_unfolding_all rfl | decide)) only [go_sem, Nat.reduceAdd, Nat.reduceSub, Nat.reduceMul, Nat.reduceLeDiff, Nat.reduceEqDiff, Nat.reduceBEq, reduceIte, reduceCtorEq, c_regencyref06_Right, List.length_map, e1]
end Go.Proofs.YtjeigcnaalleiaaGreatDoor.L
