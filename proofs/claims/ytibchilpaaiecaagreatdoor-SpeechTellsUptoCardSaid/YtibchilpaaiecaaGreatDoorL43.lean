/- The document's categories compared; its right labels. -/
import Derived.Test.YtibchilpaaiecaaGreatDoorL40
import Derived.Test.YtibchilpaaiecaaGreatDoorL39
import Derived.Test.YtibchilpaaiecaaGreatDoorL57
set_option linter.all false
set_option maxRecDepth 100000
namespace Go.Proofs.YtibchilpaaiecaaGreatDoor.L
open Go.Proofs.YtibchilpaaiecaaGreatDoor.M Go.Proofs.YtibchilpaaiecaaGreatDoor.F Go.Proofs
def HA (p : List Int) (m : Int) (q : List Int) (n : Int) : AH := [.cells [.sl .sh (p.map encI), .int .i64 m], .cells [.sl .sh (q.map encI), .int .i64 n]]
set_option maxHeartbeats 4000000 in
theorem ahd_loop {p q : List Int} {m n : Int} (hp : p.length ≤ 1000) (hq : q.length ≤ 1000) : ∀ (d i : Nat), d + i = p.length → i ≤ q.length →
    ∃ σ, den T (.loop l_regencyref05_Ahead_0) (s_regencyref05_Ahead_0 (.box 0 0) (.box 1 0) (.int .i64 i)) (HA p m q n) = some (.ret, σ, HA p m q n) ∧ σ.getD 4 undefA = .bool (ahdC (p.drop i) m (q.drop i) n) := by
  intro d
  induction d with
  | zero =>
    intro i hd hi
    have e1 : ((i : Int) == (p.length : Int)) = true := by simp; omega
    rw [List.drop_eq_nil_of_le (show p.length ≤ i by omega)]
    by_cases hl : q.length = i
    · have e2 : ((p.length : Int) != (q.length : Int)) = false := by simp; omega
      rw [List.drop_eq_nil_of_le (show q.length ≤ i by omega)]
      simp only [ahdC]
      rw [lp_round]
      simp (maxSteps := 2000000) -implicitDefEqProofs (disch := (refine id_ok ?_; first | assumption | omega | (simp [go_sem] <;> omega) | with_unfolding_all rfl | decide)) only [go_sem, Nat.reduceAdd, Nat.reduceSub, Nat.reduceMul, Nat.reduceLeDiff, Nat.reduceEqDiff, Nat.reduceBEq, reduceIte, reduceCtorEq, HA, List.length_map, e1, e2]
      exact ⟨_, rfl, rfl⟩
    · have e2 : ((p.length : Int) != (q.length : Int)) = true := by simp; omega
      rw [List.drop_eq_getElem_cons (show i < q.length by omega)]
      simp only [ahdC]
      rw [lp_round]
      simp (maxSteps := 2000000) -implicitDefEqProofs (disch := (refine id_ok ?_; first | assumption | omega | (simp [go_sem] <;> omega) | with_unfolding_all rfl | decide)) only [go_sem, Nat.reduceAdd, Nat.reduceSub, Nat.reduceMul, Nat.reduceLeDiff, Nat.reduceEqDiff, Nat.reduceBEq, reduceIte, reduceCtorEq, HA, List.length_map, e1, e2]
      exact ⟨_, rfl, rfl⟩
  | succ d ih =>
    intro i hd hi
    have hib : i < p.length := by omega
    have e1 : ((i : Int) == (p.length : Int)) = false := by simp; omega
    have hgp : (p.map encI)[(i : Int).toNat]? = some (encI p[i]) := by simp [hib]
    have hdp : p.drop i = p[i] :: p.drop (i + 1) := List.drop_eq_getElem_cons hib
    rw [hdp]
    generalize p[i] = x at *
    by_cases hl : q.length = i
    · have e3 : ((i : Int) == (q.length : Int)) = true := by simp; omega
      have e2 : ((p.length : Int) != (q.length : Int)) = true := by simp; omega
      rw [List.drop_eq_nil_of_le (show q.length ≤ i by omega)]
      simp only [ahdC]
      rw [lp_round]
      simp (maxSteps := 2000000) -implicitDefEqProofs (disch := (refine id_ok ?_; first | assumption | omega | (simp [go_sem] <;> omega) | with_unfolding_all rfl | decide)) only [go_sem, Nat.reduceAdd, Nat.reduceSub, Nat.reduceMul, Nat.reduceLeDiff, Nat.reduceEqDiff, Nat.reduceBEq, reduceIte, reduceCtorEq, HA, List.length_map, e1, e2, e3]
      exact ⟨_, rfl, rfl⟩
    · have hiq : i < q.length := by omega
      have e3 : ((i : Int) == (q.length : Int)) = false := by simp; omega
      have hgq : (q.map encI)[(i : Int).toNat]? = some (encI q[i]) := by simp [hiq]
      have hdq : q.drop i = q[i] :: q.drop (i + 1) := List.drop_eq_getElem_cons hiq
      rw [hdq]
      generalize q[i] = y at *
      have e7 := inc64 (n := i) (by omega)
      simp only [ahdC]
      by_cases hxy : x = y
      · have e4 : (x != y) = false := by simp [hxy]
        rw [if_pos hxy]
        have := ih (i + 1) (by omega) (by omega)
        simp only [HA] at this ⊢
        rw [lp_round]
        simp (maxSteps := 2000000) -implicitDefEqProofs (disch := (refine id_ok ?_; first | assumption | omega | (simp [go_sem] <;> omega) | with_unfolding_all rfl | decide)) only [go_sem, Nat.reduceAdd, Nat.reduceSub, Nat.reduceMul, Nat.reduceLeDiff, Nat.reduceEqDiff, Nat.reduceBEq, reduceIte, reduceCtorEq, List.length_map, e1, e3, hgp, hgq, encI, e4, e7]
        exact this
      · have e4 : (x != y) = true := by simp [hxy]
        rw [if_neg hxy]
        rw [lp_round]
        simp (maxSteps := 2000000) -implicitDefEqProofs (disch := (refine id_ok ?_; first | assumption | omega | (simp [go_sem] <;> omega) | with_unfolding_all rfl | decide)) only [go_sem, Nat.reduceAdd, Nat.reduceSub, Nat.reduceMul, Nat.reduceLeDiff, Nat.reduceEqDiff, Nat.reduceBEq, reduceIte, reduceCtorEq, HA, List.length_map, e1, e3, hgp, hgq, encI, e4]
        exact ⟨_, rfl, rfl⟩
theorem ahd_run {p q : List Int} {m n : Int} (hp : p.length ≤ 1000) (hq : q.length ≤ 1000) : run T 127 [.agg [.sl .sh (p.map encI), .int .i64 m], .agg [.sl .sh (q.map encI), .int .i64 n]] [] = some (.bool (ahdC p m q n), []) := by
  obtain ⟨σ, h1, h2⟩ := ahd_loop (m := m) (n := n) hp hq p.length 0 (by omega) (by omega)
  simp only [List.drop_zero, show ((0 : Nat) : Int) = 0 from rfl, HA] at h1 h2
  rw [run_code T_127]
  simp (maxSteps := 2000000) -implicitDefEqProofs (disch := (refine id_ok ?_; first | assumption | omega | (simp [go_sem] <;> omega) | with_unfolding_all rfl | decide)) only [go_sem, Nat.reduceAdd, Nat.reduceSub, Nat.reduceMul, Nat.reduceLeDiff, Nat.reduceEqDiff, Nat.reduceBEq, reduceIte, reduceCtorEq, c_regencyref05_Ahead, h1, h2]
def cmpR (a b : List UInt8) : Int := if ahdC (parC a).1 (parC a).2.1 (parC b).1 (parC b).2.1 = true then -1 else if a = b then 0 else 1
theorem cmpR_run {a b : List UInt8} {h : AH} (ha : a.length ≤ 1000000000) (hb : b.length ≤ 1000000000) (ra : rigC a = true) (rb : rigC b = true) : run T 99 [.str ⟨a.toArray⟩, .str ⟨b.toArray⟩] h = some (.int .i64 (cmpR a b), h) := by
  have h1 := refC_run ha
  have h2 := refC_run hb
  have l1 := parC_len a
  have l2 := parC_len b
  unfold rigC at ra rb
  rw [ra] at h1
  rw [rb] at h2
  have h3 := ahd_run (p := (parC a).1) (m := (parC a).2.1) (q := (parC b).1) (n := (parC b).2.1) (by omega) (by omega)
  rw [run_code T_99]
  unfold cmpR
  generalize (parC a).1 = p at *
  generalize (parC a).2.1 = m at *
  generalize (parC b).1 = q at *
  generalize (parC b).2.1 = n at *
  cases ho : ahdC p m q n with
  | true =>
    rw [ho] at h3
    simp only [if_true]
    simp (maxSteps := 2000000) -implicitDefEqProofs (disch := (refine id_ok ?_; first | assumption | omega | (simp [go_sem] <;> omega) | with_unfolding_all rfl | decide)) only [go_sem, Nat.reduceAdd, Nat.reduceSub, Nat.reduceMul, Nat.reduceLeDiff, Nat.reduceEqDiff, Nat.reduceBEq, reduceIte, reduceCtorEq, c_regencyref05_Compare, app_get, app_set, app_get0, app_set0, h1, h2, h3]
  | false =>
    rw [ho] at h3
    by_cases hab : a = b
    · have e1 : (a == b) = true := by simp [hab]
      simp only [Bool.false_eq_true, if_false]
      rw [if_pos hab]
      simp (maxSteps := 2000000) -implicitDefEqProofs (disch := (refine id_ok ?_; first | assumption | omega | (simp [go_sem] <;> omega) | with_unfolding_all rfl | decide)) only [go_sem, Nat.reduceAdd, Nat.reduceSub, Nat.reduceMul, Nat.reduceLeDiff, Nat.reduceEqDiff, Nat.reduceBEq, reduceIte, reduceCtorEq, c_regencyref05_Compare, app_get, app_set, app_get0, app_set0, h1, h2, h3, e1]
    · have e1 : (a == b) = false := by simp [hab]
      simp only [Bool.false_eq_true, if_false]
      rw [if_neg hab]
      simp (maxSteps := 2000000) -implicitDefEqProofs (disch := (refine id_ok ?_; first | assumption | omega | (simp [go_sem] <;> omega) | with_unfolding_all rfl | decide)) only [go_sem, Nat.reduceAdd, Nat.reduceSub, Nat.reduceMul, Nat.reduceLeDiff, Nat.reduceEqDiff, Nat.reduceBEq, reduceIte, reduceCtorEq, c_regencyref05_Compare, app_get, app_set, app_get0, app_set0, h1, h2, h3, e1]
theorem cmpR_com {a b : List UInt8} (ra : rigC a = true) (rb : rigC b = true) : (cmpR a b != -1) = !decide (comC a b < 0) := by
  have h := comC_ahd ra rb
  unfold cmpR
  split
  · rename_i hc
    rw [decide_eq_true (h.2 hc)]; rfl
  · rename_i hc
    rw [decide_eq_false (fun x => hc (h.1 x))]
    split <;> rfl
set_option maxHeartbeats 4000000 in
theorem rrig_loop {l : List Ent} {h : AH} (hl : ∀ e ∈ l, e.1.length ≤ 1000000000) (h8 : l.length ≤ 8) : ∀ (d i : Nat), d + i = l.length → (∀ p, prvE l i = some p → rigC p = true) →
    (rigE (prvE l i) (l.drop i) = true ∧ den T (.loop l_regencyref06_Right_0) (s_regencyref06_Right_0 (.sl .sh (l.map encE)) (.int .i64 l.length) (.int .i64 i)) h = some (.exit 0, x_regencyref06_Right_0, h)) ∨
    ∃ σ, den T (.loop l_regencyref06_Right_0) (s_regencyref06_Right_0 (.sl .sh (l.map encE)) (.int .i64 l.length) (.int .i64 i)) h = some (.ret, σ, h) ∧ σ.getD 2 undefA = .bool false ∧ rigE (prvE l i) (l.drop i) = false := by
  intro d
  induction d with
  | zero =>
    intro i hd _
    have hd' : decide ((i : Int) < l.length) = false := decide_eq_false (by omega)
    refine .inl ⟨by rw [List.drop_eq_nil_of_le (by omega)]; rfl, ?_⟩
    rw [lp_round]
    simp -implicitDefEqProofs (disch := (refine id_ok ?_; first | assumption | omega | (simp [go_sem] <;> omega) | with_unfolding_all rfl | decide)) only [go_sem, Nat.reduceAdd, Nat.reduceSub, Nat.reduceMul, Nat.reduceLeDiff, Nat.reduceEqDiff, Nat.reduceBEq, reduceIte, reduceCtorEq, hd']
  | succ d ih =>
    intro i hd hpv
    have hib : i < l.length := by omega
    have hd' : decide ((i : Int) < l.length) = true := decide_eq_true (by omega)
    have hge : (l.map encE)[(i : Int).toNat]? = some (encE l[i]) := by simp [hib]
    have hdr : l.drop i = l[i] :: l.drop (i + 1) := List.drop_eq_getElem_cons hib
    have hpr : prvE l (i + 1) = some l[i].1 := by simp [prvE, hib]
    have hcl := hl l[i] (by simp)
    have ih' := ih (i + 1) (by omega)
    rw [hpr] at ih'
    have hprv : i ≠ 0 → ∃ p : Ent, (l.map encE)[((i : Int) - 1).toNat]? = some (encE p) ∧ prvE l i = some p.1 ∧ p.1.length ≤ 1000000000 := by
      intro h0
      have hj : i - 1 < l.length := by omega
      refine ⟨l[i - 1], ?_, ?_, hl _ (by simp)⟩
      · rw [show ((i : Int) - 1).toNat = i - 1 by omega]; simp [hj]
      · simp [prvE, h0, hj]
    rw [hdr]
    generalize l[i] = e at *
    obtain ⟨c, v⟩ := e
    simp only at hcl ih' hpr
    have h1 := isCat_run (h := []) hcl
    simp only [rigE]
    cases hc : rigC c with
    | false =>
      rw [hc] at h1
      right
      rw [lp_round]
      simp (maxSteps := 2000000) -implicitDefEqProofs (disch := (refine id_ok ?_; first | assumption | omega | (simp [go_sem] <;> omega) | with_unfolding_all rfl | decide)) only [go_sem, Nat.reduceAdd, Nat.reduceSub, Nat.reduceMul, Nat.reduceLeDiff, Nat.reduceEqDiff, Nat.reduceBEq, reduceIte, reduceCtorEq, hd', hge, encE, h1]
      exact ⟨_, rfl, rfl, rfl⟩
    | true =>
      rw [hc] at h1
      have ih'' := ih' (fun p hp => by cases hp; exact hc)
      have hlv : ∃ b0 b2 b3 : Bool, (v != 0) = b0 ∧ (v != 2) = b2 ∧ (v != 3) = b3 ∧ (!(v == 1) && decide (0 ≤ v) && decide (v < 4)) = !(b0 && (b2 && b3)) := by
        refine ⟨_, _, _, rfl, rfl, rfl, ?_⟩
        by_cases q0 : v = 0
        · subst q0; rfl
        · by_cases q2 : v = 2
          · subst q2; rfl
          · by_cases q3 : v = 3
            · subst q3; rfl
            · have : (v != 0 && (v != 2 && v != 3)) = true := by simp [q0, q2, q3]
              rw [this]
              by_cases q1 : v = 1
              · subst q1; rfl
              · by_cases q4 : 0 ≤ v
                · rw [decide_eq_false (show ¬ v < 4 by omega)]; simp
                · rw [decide_eq_false q4]; simp
      obtain ⟨b0, b2, b3, e0, e2, e3, hlv⟩ := hlv
      rw [Bool.true_and, hlv]
      have hbad : (b0 && (b2 && b3)) = true ∨ (b0 && (b2 && b3)) = false := by cases b0 <;> cases b2 <;> cases b3 <;> simp
      rcases hbad with hb | hb
      · obtain ⟨rfl, rfl, rfl⟩ : b0 = true ∧ b2 = true ∧ b3 = true := by simpa using hb
        right
        rw [lp_round]
        simp (maxSteps := 2000000) -implicitDefEqProofs (disch := (refine id_ok ?_; first | assumption | omega | (simp [go_sem] <;> omega) | with_unfolding_all rfl | decide)) only [go_sem, Nat.reduceAdd, Nat.reduceSub, Nat.reduceMul, Nat.reduceLeDiff, Nat.reduceEqDiff, Nat.reduceBEq, reduceIte, reduceCtorEq, hd', hge, encE, h1, e0, e2, e3]
        exact ⟨_, rfl, rfl, rfl⟩
      · have e7 := inc64 (n := i) (by omega)
        rw [hb]
        simp only [Bool.not_false, Bool.true_and]
        by_cases h0 : i = 0
        · have e4 : decide ((i : Int) > 0) = false := decide_eq_false (by omega)
          have hp0 : prvE l i = none := by simp [prvE, h0]
          rw [hp0]
          simp only [Bool.true_and]
          have hstep : den T (.loop l_regencyref06_Right_0) (s_regencyref06_Right_0 (.sl .sh (l.map encE)) (.int .i64 l.length) (.int .i64 i)) h = den T (.loop l_regencyref06_Right_0) (s_regencyref06_Right_0 (.sl .sh (l.map encE)) (.int .i64 l.length) (.int .i64 (i + 1 : Nat))) h := by
            cases b0 <;> cases b2 <;> cases b3 <;> first
              | (simp at hb; done)
              | (rw [lp_round]
                 simp (maxSteps := 2000000) -implicitDefEqProofs (disch := (refine id_ok ?_; first | assumption | omega | (simp [go_sem] <;> omega) | with_unfolding_all rfl | decide)) only [go_sem, Nat.reduceAdd, Nat.reduceSub, Nat.reduceMul, Nat.reduceLeDiff, Nat.reduceEqDiff, Nat.reduceBEq, reduceIte, reduceCtorEq, hd', hge, encE, h1, e0, e2, e3, e4, e7])
          rw [hstep]
          exact ih''
        · have e4 : decide ((i : Int) > 0) = true := decide_eq_true (by omega)
          obtain ⟨q, hq1, hq2, hq3⟩ := hprv h0
          have hrq := hpv _ hq2
          have ha := cmpR_run (h := []) hq3 hcl hrq hc
          have hcc := cmpR_com hrq hc
          have e5 : IntKind.i64.wrap ((i : Int) - 1) = (i : Int) - 1 := w64 (by omega) (by omega)
          rw [hq2]
          simp only
          simp only [encE] at hq1
          cases hco : decide (comC q.1 c < 0) with
          | true =>
            rw [hco, Bool.not_true] at hcc
            simp only [Bool.true_and]
            have hstep : den T (.loop l_regencyref06_Right_0) (s_regencyref06_Right_0 (.sl .sh (l.map encE)) (.int .i64 l.length) (.int .i64 i)) h = den T (.loop l_regencyref06_Right_0) (s_regencyref06_Right_0 (.sl .sh (l.map encE)) (.int .i64 l.length) (.int .i64 (i + 1 : Nat))) h := by
              cases b0 <;> cases b2 <;> cases b3 <;> first
                | (simp at hb; done)
                | (rw [lp_round]
                   simp (maxSteps := 2000000) -implicitDefEqProofs (disch := (refine id_ok ?_; first | assumption | omega | (simp [go_sem] <;> omega) | with_unfolding_all rfl | decide)) only [go_sem, Nat.reduceAdd, Nat.reduceSub, Nat.reduceMul, Nat.reduceLeDiff, Nat.reduceEqDiff, Nat.reduceBEq, reduceIte, reduceCtorEq, hd', hge, encE, h1, e0, e2, e3, e4, e5, hq1, ha, hcc, e7])
            rw [hstep]
            exact ih''
          | false =>
            rw [hco, Bool.not_false] at hcc
            right
            simp only [Bool.false_and]
            cases b0 <;> cases b2 <;> cases b3 <;> first
                | (simp at hb; done)
                | (rw [lp_round]
                   simp (maxSteps := 2000000) -implicitDefEqProofs (disch := (refine id_ok ?_; first | assumption | omega | (simp [go_sem] <;> omega) | with_unfolding_all rfl | decide)) only [go_sem, Nat.reduceAdd, Nat.reduceSub, Nat.reduceMul, Nat.reduceLeDiff, Nat.reduceEqDiff, Nat.reduceBEq, reduceIte, reduceCtorEq, hd', hge, encE, h1, e0, e2, e3, e4, e5, hq1, ha, hcc]
                   exact ⟨_, rfl, rfl⟩)
theorem rrig_run {l : List Ent} {h : AH} (hl : ∀ e ∈ l, e.1.length ≤ 1000000000) : run T 60 [.sl .sh (l.map encE)] h = some (.bool (rigL l), h) := by
  rw [run_code T_60]
  unfold rigL
  by_cases h8 : l.length ≤ 8
  · have e1 : decide ((l.length : Int) > 8) = false := decide_eq_false (by omega)
    have hlp := rrig_loop (h := h) hl h8 l.length 0 (by omega) (fun p hp => by cases hp)
    simp only [List.drop_zero, show ((0 : Nat) : Int) = 0 from rfl, show prvE l 0 = none from rfl] at hlp
    rw [decide_eq_true h8, Bool.true_and]
    rcases hlp with ⟨h1, h2⟩ | ⟨σ, h1, h2, h3⟩
    · rw [h1]
      simp -implicitDefEqProofs (disch := (refine id_ok ?_; first | assumption | omega | (simp [go_sem] <;> omega) | with_unfolding_all rfl | decide)) only [go_sem, Nat.reduceAdd, Nat.reduceSub, Nat.reduceMul, Nat.reduceLeDiff, Nat.reduceEqDiff, Nat.reduceBEq, reduceIte, reduceCtorEq, c_regencyref06_Right, List.length_map, e1, h2]
    · rw [h3]
      simp -implicitDefEqProofs (disch := (refine id_ok ?_; first | assumption | omega | (simp [go_sem] <;> omega) | with_unfolding_all rfl | decide)) only [go_sem, Nat.reduceAdd, Nat.reduceSub, Nat.reduceMul, Nat.reduceLeDiff, Nat.reduceEqDiff, Nat.reduceBEq, reduceIte, reduceCtorEq, c_regencyref06_Right, List.length_map, e1, h1, h2]
  · have e1 : decide ((l.length : Int) > 8) = true := decide_eq_true (by omega)
    rw [decide_eq_false h8, Bool.false_and]
    simp -implicitDefEqProofs (disch := (refine id_ok ?_; first | assumption | omega | (simp [go_sem] <;> omega) | with_unfolding_all rfl | decide)) only [go_sem, Nat.reduceAdd, Nat.reduceSub, Nat.reduceMul, Nat.reduceLeDiff, Nat.reduceEqDiff, Nat.reduceBEq, reduceIte, reduceCtorEq, c_regencyref06_Right, List.length_map, e1]
end Go.Proofs.YtibchilpaaiecaaGreatDoor.L
/- The document's bytes and replies: numbers, texts, labels, replies. -/
set_option linter.all false
set_option maxRecDepth 100000
namespace Go.Proofs.YtibchilpaaiecaaGreatDoor.L
open Go.Proofs.YtibchilpaaiecaaGreatDoor.M Go.Proofs.YtibchilpaaiecaaGreatDoor.F Go.Proofs
theorem byt1 {m : Md} {x : UInt8} : bytesV (.sl m [[.int .u8 (x.toNat : Int)]]) = some (.str ⟨[x].toArray⟩) := bytes_enc (l := [x])
attribute [go_sem] byt1
end Go.Proofs.YtibchilpaaiecaaGreatDoor.L
/- The document's replies: their bytes. -/
set_option linter.all false
set_option maxRecDepth 100000
namespace Go.Proofs.YtibchilpaaiecaaGreatDoor.L
open Go.Proofs.YtibchilpaaiecaaGreatDoor.M Go.Proofs.YtibchilpaaiecaaGreatDoor.F Go.Proofs
end Go.Proofs.YtibchilpaaiecaaGreatDoor.L
/- The document's numbers as they are told: of any int. -/
set_option linter.all false
set_option maxRecDepth 100000
namespace Go.Proofs.YtibchilpaaiecaaGreatDoor.L
open Go.Proofs.YtibchilpaaiecaaGreatDoor.M Go.Proofs.YtibchilpaaiecaaGreatDoor.F Go.Proofs
theorem tail_len64 (u : Nat) (h : u ≤ 9223372036854775808) : (tailD u).length ≤ 19 := by
  have h1 := dec_len 19 u (by omega)
  rw [dec_top] at h1
  simp at h1; omega
theorem td10W {n : Nat} (h : n ≤ 9223372036854775807) : IntKind.i64.wrap ((n : Int).tdiv 10) = ((n / 10 : Nat) : Int) := by
  rw [Int.tdiv_eq_ediv_of_nonneg (by omega), w64 (by omega) (by omega)]; omega
theorem numW_loop {h : AH} : ∀ (u : Nat) (r : List UInt8), u ≤ 9223372036854775807 → (tailD u).length + r.length ≤ 1000 →
    den T (.loop l_regencyref01_num_1) (s_regencyref01_num_1 (.int .i64 u) (.str ⟨r.toArray⟩)) h = some (.exit 2, x_regencyref01_num_2 (.int .i64 (topD u : Nat)) (.str ⟨(tailD u ++ r).toArray⟩), h) := by
  intro u
  induction u using Nat.strongRecOn with
  | _ u ih =>
    intro r hu hr
    rw [lp_round]
    by_cases hc : u < 10
    · have hd : decide ((u : Int) ≥ 10) = false := decide_eq_false (by omega)
      rw [topD, tailD]
      simp -implicitDefEqProofs (disch := (refine id_ok ?_; first | assumption | omega | (simp [go_sem] <;> omega) | with_unfolding_all rfl | decide)) only [go_sem, Nat.reduceAdd, Nat.reduceSub, Nat.reduceMul, Nat.reduceLeDiff, Nat.reduceEqDiff, Nat.reduceBEq, reduceIte, reduceCtorEq, hc, hd, dite_true, List.nil_append]
    · have hd : decide ((u : Int) ≥ 10) = true := decide_eq_true (by omega)
      have hsl := dslc (d := u % 10) (by omega)
      have hi := incN (n := u % 10) (by omega)
      have hq := td10W hu
      rw [tailD, dif_neg hc, List.length_append, List.length_cons, List.length_nil] at hr
      have := ih (u / 10) (by omega) (UInt8.ofNat (48 + u % 10) :: r) (by omega) (by rw [List.length_cons]; omega)
      rw [topD, tailD]
      simp only [hc, dite_false, List.append_assoc, List.singleton_append]
      have e1 : (u : Int).tmod 10 = ((u % 10 : Nat) : Int) := tm10
      simp -implicitDefEqProofs (disch := (refine id_ok ?_; first | assumption | omega | (simp [go_sem] <;> omega) | with_unfolding_all rfl | decide)) only [go_sem, Nat.reduceAdd, Nat.reduceSub, Nat.reduceMul, Nat.reduceLeDiff, Nat.reduceEqDiff, Nat.reduceBEq, reduceIte, reduceCtorEq, hd, e1, hi, hsl, hq, List.cons_append, List.nil_append]
      exact this
theorem numN_loop {h : AH} : ∀ (u : Nat) (r : List UInt8), u ≤ 9223372036854775808 → (tailD u).length + r.length ≤ 1000 →
    den T (.loop l_regencyref01_num_0) (s_regencyref01_num_0 (.int .i64 (-(u : Int))) (.str ⟨r.toArray⟩)) h = some (.exit 0, x_regencyref01_num_0 (.int .i64 (-((topD u : Nat) : Int))) (.str ⟨(tailD u ++ r).toArray⟩), h) := by
  intro u
  induction u using Nat.strongRecOn with
  | _ u ih =>
    intro r hu hr
    rw [lp_round]
    by_cases hc : u < 10
    · have hd : decide (-(u : Int) ≤ -10) = false := decide_eq_false (by omega)
      rw [topD, tailD]
      simp -implicitDefEqProofs (disch := (refine id_ok ?_; first | assumption | omega | (simp [go_sem] <;> omega) | with_unfolding_all rfl | decide)) only [go_sem, Nat.reduceAdd, Nat.reduceSub, Nat.reduceMul, Nat.reduceLeDiff, Nat.reduceEqDiff, Nat.reduceBEq, reduceIte, reduceCtorEq, hc, hd, dite_true, List.nil_append]
    · have hd : decide (-(u : Int) ≤ -10) = true := decide_eq_true (by omega)
      have hsl := dslc (d := u % 10) (by omega)
      have hi := incN (n := u % 10) (by omega)
      have hq : IntKind.i64.wrap ((-(u : Int)).tdiv 10) = -((u / 10 : Nat) : Int) := by
        rw [Int.neg_tdiv, Int.tdiv_eq_ediv_of_nonneg (by omega), w64 (by omega) (by omega)]; omega
      have e1 : IntKind.i64.wrap (0 - (-(u : Int)).tmod 10) = ((u % 10 : Nat) : Int) := by
        rw [Int.neg_tmod, Int.tmod_eq_emod_of_nonneg (by omega), w64 (by omega) (by omega)]; omega
      rw [tailD, dif_neg hc, List.length_append, List.length_cons, List.length_nil] at hr
      have := ih (u / 10) (by omega) (UInt8.ofNat (48 + u % 10) :: r) (by omega) (by rw [List.length_cons]; omega)
      rw [topD, tailD]
      simp only [hc, dite_false, List.append_assoc, List.singleton_append]
      simp -implicitDefEqProofs (disch := (refine id_ok ?_; first | assumption | omega | (simp [go_sem] <;> omega) | with_unfolding_all rfl | decide)) only [go_sem, Nat.reduceAdd, Nat.reduceSub, Nat.reduceMul, Nat.reduceLeDiff, Nat.reduceEqDiff, Nat.reduceBEq, reduceIte, reduceCtorEq, hd, e1, hi, hsl, hq, List.cons_append, List.nil_append]
      exact this
theorem numA_run {n : Int} {h : AH} (h0 : -9223372036854775808 ≤ n) (h1 : n ≤ 9223372036854775807) : run T 76 [.int .i64 n] h = some (.str ⟨(Lib.itoa n).toArray⟩, h) := by
  rw [run_code T_76]
  unfold Lib.itoa
  by_cases hn : n < 0
  · obtain ⟨u, rfl⟩ : ∃ u : Nat, n = -(u : Int) := ⟨n.natAbs, by omega⟩
    have hu : u ≤ 9223372036854775808 := by omega
    have hlp := numN_loop (h := h) u [] hu (by have := tail_len64 u hu; simp; omega)
    have d1 : decide (-(u : Int) < 0) = true := decide_eq_true (by omega)
    have ht := topD_lt u
    have hsl := dslc ht
    have hi := incN (n := topD u) (by omega)
    have htl := tail_len64 u hu
    have e1 : IntKind.i64.wrap (0 - -((topD u : Nat) : Int)) = ((topD u : Nat) : Int) := by rw [w64 (by omega) (by omega)]; omega
    rw [List.append_nil] at hlp
    rw [if_pos hn, show (-(u : Int)).natAbs = u by omega, dec_top]
    simp -implicitDefEqProofs (disch := (refine id_ok ?_; first | assumption | omega | (simp [go_sem] <;> omega) | with_unfolding_all rfl | decide)) only [go_sem, Nat.reduceAdd, Nat.reduceSub, Nat.reduceMul, Nat.reduceLeDiff, Nat.reduceEqDiff, Nat.reduceBEq, reduceIte, reduceCtorEq, c_regencyref01_num, d1, hlp, e1, hi, hsl, List.cons_append, List.nil_append]
  · obtain ⟨u, rfl⟩ : ∃ u : Nat, n = (u : Int) := ⟨n.toNat, by omega⟩
    have hu : u ≤ 9223372036854775807 := by omega
    have hlp := numW_loop (h := h) u [] hu (by have := tail_len64 u (by omega); simp; omega)
    have d1 : decide ((u : Int) < 0) = false := decide_eq_false (by omega)
    have ht := topD_lt u
    have hsl := dslc ht
    have hi := incN (n := topD u) (by omega)
    have htl := tail_len64 u (by omega)
    rw [List.append_nil] at hlp
    rw [if_neg hn, Int.toNat_natCast, dec_top]
    simp -implicitDefEqProofs (disch := (refine id_ok ?_; first | assumption | omega | (simp [go_sem] <;> omega) | with_unfolding_all rfl | decide)) only [go_sem, Nat.reduceAdd, Nat.reduceSub, Nat.reduceMul, Nat.reduceLeDiff, Nat.reduceEqDiff, Nat.reduceBEq, reduceIte, reduceCtorEq, c_regencyref01_num, d1, hlp, hi, hsl, List.cons_append, List.nil_append]
theorem numI_run {n : Int} {h : AH} (h0 : -9223372036854775808 ≤ n) (h1 : n ≤ 9223372036854775807) : run T 34 [.int .i64 n] h = some (.str ⟨(Lib.itoa n).toArray⟩, h) := by
  have h1 := numA_run (h := []) h0 h1
  rw [run_code T_34]
  simp -implicitDefEqProofs (disch := (refine id_ok ?_; first | assumption | omega | (simp [go_sem] <;> omega) | with_unfolding_all rfl | decide)) only [go_sem, Nat.reduceAdd, Nat.reduceSub, Nat.reduceMul, Nat.reduceLeDiff, Nat.reduceEqDiff, Nat.reduceBEq, reduceIte, reduceCtorEq, c_regencyref01_Num, h1]
theorem itoa_len {n : Int} (h0 : -9223372036854775808 ≤ n) (h1 : n ≤ 9223372036854775807) : (Lib.itoa n).length ≤ 21 := by
  unfold Lib.itoa
  split
  · have := dec_len 19 n.natAbs (by omega)
    simp; omega
  · have := dec_len 19 n.toNat (by omega)
    omega
end Go.Proofs.YtibchilpaaiecaaGreatDoor.L
/- Texts: strings joined; labels told, the program's way and the document's. -/
set_option linter.all false
set_option maxRecDepth 100000
namespace Go.Proofs.YtibchilpaaiecaaGreatDoor.L
open Go.Proofs.YtibchilpaaiecaaGreatDoor.M Go.Proofs.YtibchilpaaiecaaGreatDoor.F Go.Proofs
def i64 (n : Int) : Prop := -9223372036854775808 ≤ n ∧ n ≤ 9223372036854775807
theorem decS_T : ∀ (l : List (List UInt8)), M.decS (l.map encT) = some (l.map fun s => (⟨s.toArray⟩ : ByteArray))
  | [] => rfl
  | a :: l => by
    show (M.decS (l.map encT)).map (fun r => (⟨a.toArray⟩ : ByteArray) :: r) = _
    rw [decS_T l]; rfl
theorem join_run {l : List (List UInt8)} {sep : List UInt8} {h : AH} (h1 : l.length ≤ 140737488355328) (h2 : (Lib.join l sep).length ≤ 140737488355328) : run T 29 [.sl .sh (l.map encT), .str ⟨sep.toArray⟩] h = some (.str ⟨(Lib.join l sep).toArray⟩, h) := by
  rw [run_prim T_29]
  have hm : (l.map fun s => (⟨s.toArray⟩ : ByteArray)).map (fun x => x.data.toList) = l := by
    rw [List.map_map]
    conv => rhs; rw [← List.map_id l]
    exact List.map_congr_left fun x _ => by simp
  unfold M.joinP
  simp only [decS_T]
  rw [if_pos ⟨by rw [List.length_map]; exact h1, by rw [hm]; simpa using h2⟩]
  unfold joinB
  rw [hm]
theorem join_le {B : Nat} {sep : List UInt8} : ∀ {l : List (List UInt8)}, (∀ x ∈ l, x.length ≤ B) → (Lib.join l sep).length ≤ l.length * (B + sep.length)
  | [], _ => by simp [Lib.join_nil]
  | x :: r, h => by
    rw [Lib.join_cons, List.length_append]
    have h0 := h x (by simp)
    have key : ∀ r : List (List UInt8), (∀ y ∈ r, y.length ≤ B) → (Lib.joinTail sep r).length ≤ r.length * (B + sep.length) := by
      intro r
      induction r with
      | nil => intro _; simp [Lib.joinTail]
      | cons y r ih =>
        intro hr
        have := ih fun z hz => hr z (by simp [hz])
        have hy := hr y (by simp)
        simp only [Lib.joinTail, List.map_cons, List.flatten_cons, List.length_append, List.length_cons] at this ⊢
        rw [Nat.succ_mul]; omega
    have := key r fun y hy => h y (by simp [hy])
    rw [List.length_cons, Nat.succ_mul]; omega
def lblT (e : Ent) : List UInt8 := e.1 ++ 61 :: Lib.itoa e.2
def labT (l : List Ent) : List UInt8 := if l = [] then [45] else Lib.join (l.map lblT) [44]
def okE (e : Ent) : Prop := e.1.length ≤ 1048576 ∧ i64 e.2
theorem lblT_len {e : Ent} (h : okE e) : (lblT e).length ≤ 1048600 := by
  have := itoa_len h.2.1 h.2.2
  have := h.1
  simp only [lblT, List.length_append, List.length_cons]; omega
theorem eq_61 : (⟨#[61]⟩ : ByteArray) = ⟨[61].toArray⟩ := rfl
set_option maxHeartbeats 4000000 in
theorem ltx_loop {l : List Ent} (hl : ∀ e ∈ l, okE e) (hll : l.length ≤ 1000) : ∀ (d i : Nat) (js : AH) (p : List (List UInt8)), d + i = l.length → p.length ≤ 10000 + i →
    den T (.loop l_label_Text_0) (s_label_Text_0 (ow (p.map encT)) (.sl .sh (l.map encE)) (.int .i64 l.length) (.int .i64 i)) js = some (.exit 0, x_label_Text_0 (ow ((p ++ (l.drop i).map lblT).map encT)), js ++ (l.drop i).map bxE) := by
  intro d
  induction d with
  | zero =>
    intro i js p hd hb
    have hd' : decide ((i : Int) < l.length) = false := decide_eq_false (by omega)
    rw [List.drop_eq_nil_of_le (by omega), List.map_nil, List.append_nil, List.map_nil, List.append_nil]
    rw [lp_round]
    simp -implicitDefEqProofs (disch := (refine id_ok ?_; first | assumption | omega | (simp [go_sem] <;> omega) | with_unfolding_all rfl | decide)) only [go_sem, Nat.reduceAdd, Nat.reduceSub, Nat.reduceMul, Nat.reduceLeDiff, Nat.reduceEqDiff, Nat.reduceBEq, reduceIte, reduceCtorEq, hd']
  | succ d ih =>
    intro i js p hd hb
    have hib : i < l.length := by omega
    have hd' : decide ((i : Int) < l.length) = true := decide_eq_true (by omega)
    have hge : (l.map encE)[(i : Int).toNat]? = some (encE l[i]) := by simp [hib]
    have hdr : l.drop i = l[i] :: l.drop (i + 1) := List.drop_eq_getElem_cons hib
    have hcl := hl l[i] (by simp)
    rw [hdr]
    generalize l[i] = e at *
    obtain ⟨c, v⟩ := e
    have h1 := hcl.1
    have h2 := itoa_len hcl.2.1 hcl.2.2
    have t1 := itoa_run (h := []) hcl.2.1 hcl.2.2
    simp only at h1 h2 t1
    have e7 := incN (n := i) (by omega)
    have ih' := ih (i + 1) (js ++ [bxE (c, v)]) (p ++ [lblT (c, v)]) (by omega) (by simp; omega)
    have hap : (p ++ [lblT (c, v)]).map encT = p.map encT ++ [[.str ⟨(c ++ 61 :: Lib.itoa v).toArray⟩]] := by simp [encT, lblT]
    have hml : (p.map encT).length = p.length := List.length_map ..
    rw [hap] at ih'
    simp only [List.map_cons, List.append_assoc, List.singleton_append] at ih' ⊢
    simp only [bxE, encE] at ih' ⊢
    rw [lp_round]
    simp (maxSteps := 2000000) -implicitDefEqProofs (disch := (refine id_ok ?_; first | assumption | omega | (simp [go_sem] <;> omega) | with_unfolding_all rfl | decide)) only [go_sem, Nat.reduceAdd, Nat.reduceSub, Nat.reduceMul, Nat.reduceLeDiff, Nat.reduceEqDiff, Nat.reduceBEq, reduceIte, reduceCtorEq, hd', hge, encE, app_get0, app_set0, t1, e7, hml]
    exact ih'
theorem ltx_run {l : List Ent} (hl : ∀ e ∈ l, okE e) (hll : l.length ≤ 1000) : run T 59 [.sl .sh (l.map encE)] [] = some (.str ⟨(labT l).toArray⟩, []) := by
  rw [run_code T_59]
  unfold labT
  by_cases h0 : l = []
  · subst h0
    rw [if_pos rfl]
    simp -implicitDefEqProofs (disch := (refine id_ok ?_; first | assumption | omega | (simp [go_sem] <;> omega) | with_unfolding_all rfl | decide)) only [go_sem, Nat.reduceAdd, Nat.reduceSub, Nat.reduceMul, Nat.reduceLeDiff, Nat.reduceEqDiff, Nat.reduceBEq, reduceIte, reduceCtorEq, c_label_Text, List.map_nil, show (((0 : Nat) : Int) == 0) = true from rfl]
  · rw [if_neg h0]
    have hz : ((l.length : Int) == 0) = false := by
      have : l.length ≠ 0 := fun e => h0 (List.length_eq_zero_iff.1 e)
      simp; omega
    have hlp := ltx_loop hl hll l.length 0 [] [] (by omega) (by simp)
    simp only [List.drop_zero, List.map_nil, List.nil_append, show ((0 : Nat) : Int) = 0 from rfl] at hlp
    have hj := fun h => join_run (l := l.map lblT) (sep := [44]) (h := h) (by rw [List.length_map]; omega) (by
      have := join_le (B := 1048600) (sep := [44]) (l := l.map lblT) (fun x hx => by obtain ⟨e, he, rfl⟩ := List.mem_map.1 hx; exact lblT_len (hl e he))
      rw [List.length_map, List.length_singleton] at this
      have : l.length * (1048600 + 1) ≤ 1000 * 1048601 := Nat.mul_le_mul hll (Nat.le_refl _)
      omega)
    have hlb : (l.map encE).length = l.length := List.length_map ..
    generalize l.map lblT = L at *
    simp (maxSteps := 2000000) -implicitDefEqProofs (disch := (refine id_ok ?_; first | assumption | omega | (simp [go_sem] <;> omega) | with_unfolding_all rfl | decide)) only [go_sem, Nat.reduceAdd, Nat.reduceSub, Nat.reduceMul, Nat.reduceLeDiff, Nat.reduceEqDiff, Nat.reduceBEq, reduceIte, reduceCtorEq, c_label_Text, hlb, hz, hlp, hj]
def labF : Bool → List Ent → List UInt8
  | _, [] => []
  | b, e :: r => (if b then [44] else []) ++ (lblT e ++ labF true r)
theorem labF_join : ∀ (l : List Ent), labF true l = Lib.joinTail [44] (l.map lblT)
  | [] => rfl
  | e :: r => by rw [labF, labF_join r]; simp [Lib.joinTail]
theorem labF_labT (l : List Ent) (h : l ≠ []) : labF false l = Lib.join (l.map lblT) [44] := by
  cases l with
  | nil => exact absurd rfl h
  | cons e r => rw [labF, labF_join r, List.map_cons, Lib.join_cons]; simp
theorem labF_len {l : List Ent} (hl : ∀ e ∈ l, okE e) (b : Bool) : (labF b l).length ≤ 1048601 * l.length := by
  induction l generalizing b with
  | nil => simp [labF]
  | cons e r ih =>
    have h1 := ih (fun x hx => hl x (by simp [hx])) true
    have h2 := lblT_len (hl e (by simp))
    rw [labF]
    cases b <;> simp only [List.length_append, List.length_cons, Bool.false_eq_true, if_true, if_false, List.length_nil, Nat.mul_succ] <;> omega
set_option maxHeartbeats 4000000 in
theorem l6tx_loop {l : List Ent} (hl : ∀ e ∈ l, okE e) (hll : l.length ≤ 1000) : ∀ (d i : Nat) (js : AH) (b : List UInt8), d + i = l.length → b.length ≤ 1048601 * i →
    den T (.loop l_regencyref06_Text_0) (s_regencyref06_Text_0 (.str ⟨b.toArray⟩) (.sl .sh (l.map encE)) (.int .i64 l.length) (.int .i64 i)) js = some (.exit 0, x_regencyref06_Text_0 (.str ⟨(b ++ labF (decide (0 < i)) (l.drop i)).toArray⟩), js ++ (l.drop i).map bxE) := by
  intro d
  induction d with
  | zero =>
    intro i js b hd hb
    have hd' : decide ((i : Int) < l.length) = false := decide_eq_false (by omega)
    rw [List.drop_eq_nil_of_le (by omega), labF, List.append_nil, List.map_nil, List.append_nil]
    rw [lp_round]
    simp -implicitDefEqProofs (disch := (refine id_ok ?_; first | assumption | omega | (simp [go_sem] <;> omega) | with_unfolding_all rfl | decide)) only [go_sem, Nat.reduceAdd, Nat.reduceSub, Nat.reduceMul, Nat.reduceLeDiff, Nat.reduceEqDiff, Nat.reduceBEq, reduceIte, reduceCtorEq, hd']
  | succ d ih =>
    intro i js b hd hb
    have hib : i < l.length := by omega
    have hd' : decide ((i : Int) < l.length) = true := decide_eq_true (by omega)
    have hge : (l.map encE)[(i : Int).toNat]? = some (encE l[i]) := by simp [hib]
    have hdr : l.drop i = l[i] :: l.drop (i + 1) := List.drop_eq_getElem_cons hib
    have hcl := hl l[i] (by simp)
    rw [hdr]
    generalize l[i] = e at *
    obtain ⟨c, v⟩ := e
    have h1 := hcl.1
    have h2 := itoa_len hcl.2.1 hcl.2.2
    have t1 := numI_run (h := []) hcl.2.1 hcl.2.2
    simp only at h1 h2 t1
    have e7 := incN (n := i) (by omega)
    have ih' := fun b' hb' => ih (i + 1) (js ++ [bxE (c, v)]) b' (by omega) hb'
    rw [show decide (0 < i + 1) = true from decide_eq_true (by omega)] at ih'
    by_cases h0 : i = 0
    · subst h0
      have ih2 := ih' (b ++ lblT (c, v)) (by simp only [lblT, List.length_append, List.length_cons]; omega)
      simp only [labF, lblT, List.map_cons, List.append_assoc, List.singleton_append, List.cons_append, List.nil_append, show decide (0 < 0) = false from rfl, Bool.false_eq_true, if_false] at ih2 ⊢
      simp only [bxE, encE] at ih2 ⊢
      rw [lp_round]
      simp (maxSteps := 2000000) -implicitDefEqProofs (disch := (refine id_ok ?_; first | assumption | omega | (simp [go_sem] <;> omega) | with_unfolding_all rfl | decide)) only [go_sem, Nat.reduceAdd, Nat.reduceSub, Nat.reduceMul, Nat.reduceLeDiff, Nat.reduceEqDiff, Nat.reduceBEq, reduceIte, reduceCtorEq, hd', hge, encE, app_get0, app_set0, t1, e7, show decide (((0 : Nat) : Int) > 0) = false from rfl]
      exact ih2
    · have h0' : decide (0 < i) = true := decide_eq_true (by omega)
      have hgt : decide ((i : Int) > 0) = true := decide_eq_true (by omega)
      have ih2 := ih' (b ++ 44 :: lblT (c, v)) (by simp only [lblT, List.length_append, List.length_cons]; omega)
      simp only [labF, lblT, h0', List.map_cons, List.append_assoc, List.singleton_append, List.cons_append, List.nil_append, if_true] at ih2 ⊢
      simp only [bxE, encE] at ih2 ⊢
      rw [lp_round]
      simp (maxSteps := 2000000) -implicitDefEqProofs (disch := (refine id_ok ?_; first | assumption | omega | (simp [go_sem] <;> omega) | with_unfolding_all rfl | decide)) only [go_sem, Nat.reduceAdd, Nat.reduceSub, Nat.reduceMul, Nat.reduceLeDiff, Nat.reduceEqDiff, Nat.reduceBEq, reduceIte, reduceCtorEq, hd', hge, encE, app_get0, app_set0, t1, e7, hgt, List.append_assoc, List.cons_append, List.nil_append]
      exact ih2
theorem l6tx_run {l : List Ent} (hl : ∀ e ∈ l, okE e) (hll : l.length ≤ 1000) : run T 33 [.sl .sh (l.map encE)] [] = some (.str ⟨(labT l).toArray⟩, []) := by
  have hlp := l6tx_loop hl hll l.length 0 [] [] (by omega) (by simp)
  simp only [List.drop_zero, List.nil_append, show ((0 : Nat) : Int) = 0 from rfl, show decide (0 < 0) = false from rfl] at hlp
  rw [run_code T_33]
  by_cases h0 : l = []
  · have hn : (labF false l == []) = true := by rw [h0]; rfl
    have hx : labT l = [45] := by unfold labT; rw [if_pos h0]
    rw [hx]
    simp (maxSteps := 2000000) -implicitDefEqProofs (disch := (refine id_ok ?_; first | assumption | omega | (simp [go_sem] <;> omega) | with_unfolding_all rfl | decide)) only [go_sem, Nat.reduceAdd, Nat.reduceSub, Nat.reduceMul, Nat.reduceLeDiff, Nat.reduceEqDiff, Nat.reduceBEq, reduceIte, reduceCtorEq, c_regencyref06_Text, List.length_map, hlp, hn]
  · have hn : (labF false l == []) = false := by
      cases l with
      | nil => exact absurd rfl h0
      | cons e r => simp [labF, lblT]
    have hx : labT l = labF false l := by unfold labT; rw [if_neg h0, labF_labT l h0]
    rw [hx]
    simp (maxSteps := 2000000) -implicitDefEqProofs (disch := (refine id_ok ?_; first | assumption | omega | (simp [go_sem] <;> omega) | with_unfolding_all rfl | decide)) only [go_sem, Nat.reduceAdd, Nat.reduceSub, Nat.reduceMul, Nat.reduceLeDiff, Nat.reduceEqDiff, Nat.reduceBEq, reduceIte, reduceCtorEq, c_regencyref06_Text, List.length_map, hlp, hn]
end Go.Proofs.YtibchilpaaiecaaGreatDoor.L
/- The document's paths: right, told, put, parsed. -/
set_option linter.all false
set_option maxRecDepth 100000
namespace Go.Proofs.YtibchilpaaiecaaGreatDoor.L
open Go.Proofs.YtibchilpaaiecaaGreatDoor.M Go.Proofs.YtibchilpaaiecaaGreatDoor.F Go.Proofs
theorem rr8_loop {l : List Int} {h : AH} (hl : l.length ≤ 1000000000) : ∀ (d i : Nat), d + i = l.length →
    ((l.drop i).all okN = true ∧ den T (.loop l_regencyref08_Right_0) (s_regencyref08_Right_0 (.sl .sh (l.map encI)) (.sl .sh (l.map encI)) (.int .i64 l.length) (.int .i64 i)) h = some (.exit 0, x_regencyref08_Right_0 (.sl .sh (l.map encI)), h)) ∨
    ((l.drop i).all okN = false ∧ ∃ σ, den T (.loop l_regencyref08_Right_0) (s_regencyref08_Right_0 (.sl .sh (l.map encI)) (.sl .sh (l.map encI)) (.int .i64 l.length) (.int .i64 i)) h = some (.ret, σ, h) ∧ σ.getD 2 undefA = .bool false) := by
  intro d
  induction d with
  | zero =>
    intro i hd
    have hd' : decide ((i : Int) < l.length) = false := decide_eq_false (by omega)
    refine .inl ⟨by rw [List.drop_eq_nil_of_le (by omega)]; rfl, ?_⟩
    rw [lp_round]
    simp -implicitDefEqProofs (disch := (refine id_ok ?_; first | assumption | omega | (simp [go_sem] <;> omega) | with_unfolding_all rfl | decide)) only [go_sem, Nat.reduceAdd, Nat.reduceSub, Nat.reduceMul, Nat.reduceLeDiff, Nat.reduceEqDiff, Nat.reduceBEq, reduceIte, reduceCtorEq, hd']
  | succ d ih =>
    intro i hd
    have hib : i < l.length := by omega
    have hd' : decide ((i : Int) < l.length) = true := decide_eq_true (by omega)
    have hge : (l.map encI)[(i : Int).toNat]? = some (encI l[i]) := by simp [hib]
    have hdr : l.drop i = l[i] :: l.drop (i + 1) := List.drop_eq_getElem_cons hib
    have e7 := incP (n := i) (by omega)
    have ih' := ih (i + 1) (by omega)
    rw [hdr, List.all_cons]
    generalize l[i] = x at *
    simp only [encI] at hge
    by_cases h0 : x < 0
    · have d1 : decide (x < 0) = true := decide_eq_true h0
      have hx : okN x = false := by rw [Bool.eq_false_iff, ne_eq, okN_iff]; omega
      refine .inr ⟨by rw [hx, Bool.false_and], ?_⟩
      rw [lp_round]
      simp (maxSteps := 2000000) -implicitDefEqProofs (disch := (refine id_ok ?_; first | assumption | omega | (simp [go_sem] <;> omega) | with_unfolding_all rfl | decide)) only [go_sem, Nat.reduceAdd, Nat.reduceSub, Nat.reduceMul, Nat.reduceLeDiff, Nat.reduceEqDiff, Nat.reduceBEq, reduceIte, reduceCtorEq, hd', hge, d1]
      exact ⟨_, rfl, rfl⟩
    · have d1 : decide (x < 0) = false := decide_eq_false h0
      by_cases h1 : x > 1048576
      · have d2 : decide (x > 1048576) = true := decide_eq_true h1
        have hx : okN x = false := by rw [Bool.eq_false_iff, ne_eq, okN_iff]; omega
        refine .inr ⟨by rw [hx, Bool.false_and], ?_⟩
        rw [lp_round]
        simp (maxSteps := 2000000) -implicitDefEqProofs (disch := (refine id_ok ?_; first | assumption | omega | (simp [go_sem] <;> omega) | with_unfolding_all rfl | decide)) only [go_sem, Nat.reduceAdd, Nat.reduceSub, Nat.reduceMul, Nat.reduceLeDiff, Nat.reduceEqDiff, Nat.reduceBEq, reduceIte, reduceCtorEq, hd', hge, d1, d2]
        exact ⟨_, rfl, rfl⟩
      · have d2 : decide (x > 1048576) = false := decide_eq_false h1
        have hx : okN x = true := okN_iff.2 (by omega)
        have hstep : den T (.loop l_regencyref08_Right_0) (s_regencyref08_Right_0 (.sl .sh (l.map encI)) (.sl .sh (l.map encI)) (.int .i64 l.length) (.int .i64 i)) h = den T (.loop l_regencyref08_Right_0) (s_regencyref08_Right_0 (.sl .sh (l.map encI)) (.sl .sh (l.map encI)) (.int .i64 l.length) (.int .i64 (i + 1 : Nat))) h := by
          rw [lp_round]
          simp (maxSteps := 2000000) -implicitDefEqProofs (disch := (refine id_ok ?_; first | assumption | omega | (simp [go_sem] <;> omega) | with_unfolding_all rfl | decide)) only [go_sem, Nat.reduceAdd, Nat.reduceSub, Nat.reduceMul, Nat.reduceLeDiff, Nat.reduceEqDiff, Nat.reduceBEq, reduceIte, reduceCtorEq, hd', hge, d1, d2, e7]
          try rfl
        rw [hstep, hx, Bool.true_and]
        exact ih'
theorem rr8_run {l : List Int} {h : AH} (hl : l.length ≤ 1000000000) : run T 74 [.sl .sh (l.map encI)] h = some (.bool (rigP l), h) := by
  have e1 : decide ((l.length : Int) ≤ 6) = decide (l.length ≤ 6) := by congr 1; exact propext (by omega)
  rw [run_code T_74]
  unfold rigP
  rcases rr8_loop (h := h) hl l.length 0 (by omega) with ⟨h1, h2⟩ | ⟨h1, σ, h2, h3⟩
  · simp only [show ((0 : Nat) : Int) = 0 from rfl, List.drop_zero] at h1 h2
    rw [h1, Bool.and_true]
    simp (maxSteps := 2000000) -implicitDefEqProofs (disch := (refine id_ok ?_; first | assumption | omega | (simp [go_sem] <;> omega) | with_unfolding_all rfl | decide)) only [go_sem, Nat.reduceAdd, Nat.reduceSub, Nat.reduceMul, Nat.reduceLeDiff, Nat.reduceEqDiff, Nat.reduceBEq, reduceIte, reduceCtorEq, c_regencyref08_Right, List.length_map, h2, e1]
  · simp only [show ((0 : Nat) : Int) = 0 from rfl, List.drop_zero] at h1 h2
    rw [h1, Bool.and_false]
    simp (maxSteps := 2000000) -implicitDefEqProofs (disch := (refine id_ok ?_; first | assumption | omega | (simp [go_sem] <;> omega) | with_unfolding_all rfl | decide)) only [go_sem, Nat.reduceAdd, Nat.reduceSub, Nat.reduceMul, Nat.reduceLeDiff, Nat.reduceEqDiff, Nat.reduceBEq, reduceIte, reduceCtorEq, c_regencyref08_Right, List.length_map, h2, h3]
def ja : Nat → List Int → List UInt8
  | _, [] => []
  | i, k :: r => (if 0 < i then [46] else []) ++ (Lib.itoa k ++ ja (i + 1) r)
theorem ja_succ : ∀ (r : List Int) (i : Nat), ja (i + 1) r = if r = [] then [] else 46 :: joinP (r.map Lib.itoa)
  | [], i => by simp [ja]
  | [k], i => by simp [ja, joinP]
  | k :: k2 :: r, i => by
    have ih := ja_succ (k2 :: r) (i + 1)
    rw [ja, ih, if_pos (by omega), if_neg (by simp), if_neg (by simp)]
    simp only [List.map_cons, joinP, List.singleton_append]
theorem ja_0 (l : List Int) : ja 0 l = dotT l := by
  unfold dotT
  rw [← joinP_join]
  cases l with
  | nil => rfl
  | cons k r =>
    rw [ja, ja_succ, if_neg (by omega), List.nil_append]
    cases r with
    | nil => simp [joinP]
    | cons k2 r => rw [if_neg (by simp)]; simp only [List.map_cons, joinP]
def i64L (l : List Int) : Prop := ∀ k ∈ l, -9223372036854775808 ≤ k ∧ k ≤ 9223372036854775807
theorem rt8_loop {l : List Int} {h : AH} (hl : l.length ≤ 1000) (hi : i64L l) : ∀ (d i : Nat) (a : List UInt8), d + i = l.length → a.length ≤ 22 * i →
    den T (.loop l_regencyref08_Text_0) (s_regencyref08_Text_0 (.str ⟨a.toArray⟩) (.sl .sh (l.map encI)) (.int .i64 l.length) (.int .i64 i)) h = some (.exit 0, x_regencyref08_Text_0 (.str ⟨(a ++ ja i (l.drop i)).toArray⟩), h) := by
  intro d
  induction d with
  | zero =>
    intro i a hd ha
    have hd' : decide ((i : Int) < l.length) = false := decide_eq_false (by omega)
    rw [List.drop_eq_nil_of_le (by omega), ja, List.append_nil]
    rw [lp_round]
    simp -implicitDefEqProofs (disch := (refine id_ok ?_; first | assumption | omega | (simp [go_sem] <;> omega) | with_unfolding_all rfl | decide)) only [go_sem, Nat.reduceAdd, Nat.reduceSub, Nat.reduceMul, Nat.reduceLeDiff, Nat.reduceEqDiff, Nat.reduceBEq, reduceIte, reduceCtorEq, hd']
  | succ d ih =>
    intro i a hd ha
    have hib : i < l.length := by omega
    have hd' : decide ((i : Int) < l.length) = true := decide_eq_true (by omega)
    have hge : (l.map encI)[(i : Int).toNat]? = some (encI l[i]) := by simp [hib]
    have hdr : l.drop i = l[i] :: l.drop (i + 1) := List.drop_eq_getElem_cons hib
    have e7 := incP (n := i) (by omega)
    obtain ⟨r1, r2⟩ := hi l[i] (List.getElem_mem hib)
    rw [hdr, ja]
    generalize l[i] = x at *
    have hn := numI_run (n := x) (h := []) r1 r2
    have hil := itoa_len r1 r2
    simp only [encI] at hge
    by_cases h0 : 0 < i
    · have d1 : decide ((i : Int) > 0) = true := decide_eq_true (by omega)
      have ih' := ih (i + 1) (a ++ [46] ++ Lib.itoa x) (by omega) (by simp only [List.length_append, List.length_cons, List.length_nil]; omega)
      rw [if_pos h0]
      rw [show a ++ ([46] ++ (Lib.itoa x ++ ja (i + 1) (List.drop (i + 1) l))) = a ++ [46] ++ Lib.itoa x ++ ja (i + 1) (List.drop (i + 1) l) by simp only [List.append_assoc]]
      have e46 : (⟨#[46]⟩ : ByteArray) = ⟨([46] : List UInt8).toArray⟩ := rfl
      rw [lp_round]
      simp (maxSteps := 2000000) -implicitDefEqProofs (disch := (refine id_ok ?_; first | assumption | omega | (simp [go_sem] <;> omega) | with_unfolding_all rfl | decide)) only [go_sem, Nat.reduceAdd, Nat.reduceSub, Nat.reduceMul, Nat.reduceLeDiff, Nat.reduceEqDiff, Nat.reduceBEq, reduceIte, reduceCtorEq, hd', hge, d1, hn, e7, e46]
      simp only [List.append_assoc, List.cons_append, List.nil_append] at ih'
      exact ih'
    · have d1 : decide ((i : Int) > 0) = false := decide_eq_false (by omega)
      have ih' := ih (i + 1) (a ++ Lib.itoa x) (by omega) (by simp only [List.length_append]; omega)
      rw [if_neg h0, List.nil_append, ← List.append_assoc]
      rw [lp_round]
      simp (maxSteps := 2000000) -implicitDefEqProofs (disch := (refine id_ok ?_; first | assumption | omega | (simp [go_sem] <;> omega) | with_unfolding_all rfl | decide)) only [go_sem, Nat.reduceAdd, Nat.reduceSub, Nat.reduceMul, Nat.reduceLeDiff, Nat.reduceEqDiff, Nat.reduceBEq, reduceIte, reduceCtorEq, hd', hge, d1, hn, e7]
      rw [List.append_assoc] at ih'
      exact ih'
theorem rt8_run {l : List Int} {h : AH} (hl : l.length ≤ 1000) (hi : i64L l) : run T 75 [.sl .sh (l.map encI)] h = some (.str ⟨(dotT l).toArray⟩, h) := by
  have h1 := rt8_loop (h := h) hl hi l.length 0 [] (by omega) (by simp)
  simp only [show ((0 : Nat) : Int) = 0 from rfl, List.drop_zero, List.nil_append, ja_0] at h1
  rw [run_code T_75]
  simp (maxSteps := 2000000) -implicitDefEqProofs (disch := (refine id_ok ?_; first | assumption | omega | (simp [go_sem] <;> omega) | with_unfolding_all rfl | decide)) only [go_sem, Nat.reduceAdd, Nat.reduceSub, Nat.reduceMul, Nat.reduceLeDiff, Nat.reduceEqDiff, Nat.reduceBEq, reduceIte, reduceCtorEq, c_regencyref08_Text, List.length_map, h1]
theorem rq8_loop {s : List UInt8} {h : AH} (hs : s.length ≤ 1000000) : ∀ (k i n d : Nat) (p : List Int), k + i = s.length → n < 10 ^ d → d ≤ 7 → p.length ≤ i →
    (∃ q, refQ (s.drop i) n d p = some q ∧ den T (.loop l_regencyref08_Parse_0) (s_regencyref08_Parse_0 (.str ⟨s.toArray⟩) (ow (p.map encI)) (.int .i64 n) (.int .i64 d) (.int .i64 i)) h = some (.exit 0, x_regencyref08_Parse_0 (.str ⟨s.toArray⟩) (ow (q.map encI)), h)) ∨
    (refQ (s.drop i) n d p = none ∧ ∃ σ, den T (.loop l_regencyref08_Parse_0) (s_regencyref08_Parse_0 (.str ⟨s.toArray⟩) (ow (p.map encI)) (.int .i64 n) (.int .i64 d) (.int .i64 i)) h = some (.ret, σ, h) ∧ σ.getD 2 undefA = ow [] ∧ σ.getD 3 undefA = .bool false) := by
  intro k
  induction k with
  | zero =>
    intro i n d p hk hn hd hp
    have d1 : decide ((i : Int) ≤ s.length) = true := decide_eq_true (by omega)
    have d2 : ((i : Int) == (s.length : Int)) = true := by simp; omega
    have d3 : decide (((i + 1 : Nat) : Int) ≤ s.length) = false := decide_eq_false (by omega)
    have e7 := incP (n := i) (by omega)
    have e1 : (p ++ [(n : Int)]).map encI = p.map encI ++ [[.int .i64 (n : Int)]] := by simp [encI]
    refine .inl ⟨p ++ [(n : Int)], by rw [List.drop_eq_nil_of_le (by omega)]; rfl, ?_⟩
    rw [e1]
    rw [lp_round]
    simp (maxSteps := 2000000) -implicitDefEqProofs (disch := (refine id_ok ?_; first | assumption | omega | (simp [go_sem] <;> omega) | with_unfolding_all rfl | decide)) only [go_sem, Nat.reduceAdd, Nat.reduceSub, Nat.reduceMul, Nat.reduceLeDiff, Nat.reduceEqDiff, Nat.reduceBEq, reduceIte, reduceCtorEq, d1, d2, e7]
    rw [lp_round]
    simp (maxSteps := 2000000) -implicitDefEqProofs (disch := (refine id_ok ?_; first | assumption | omega | (simp [go_sem] <;> omega) | with_unfolding_all rfl | decide)) only [go_sem, Nat.reduceAdd, Nat.reduceSub, Nat.reduceMul, Nat.reduceLeDiff, Nat.reduceEqDiff, Nat.reduceBEq, reduceIte, reduceCtorEq, d3]
  | succ k ih =>
    intro i n d p hk hn hd hp
    have his : i < s.length := by omega
    have d1 : decide ((i : Int) ≤ s.length) = true := decide_eq_true (by omega)
    have d2 : ((i : Int) == (s.length : Int)) = false := by simp; omega
    have e7 := incP (n := i) (by omega)
    have hge : s[(i : Int).toNat]? = some s[i] := by simp [his]
    have hdr : s.drop i = s[i] :: s.drop (i + 1) := List.drop_eq_getElem_cons his
    rw [hdr, refQ]
    generalize s[i] = c at *
    have hcl := c.toNat_lt
    by_cases h46 : c = 46
    · have d3 : ((c.toNat : Int) == 46) = true := by rw [h46]; rfl
      have ih' := ih (i + 1) 0 0 (p ++ [(n : Int)]) (by omega) (by simp) (by omega) (by simp; omega)
      have e1 : (p ++ [(n : Int)]).map encI = p.map encI ++ [[.int .i64 (n : Int)]] := by simp [encI]
      rw [if_pos h46]
      rw [e1] at ih'
      have hstep : den T (.loop l_regencyref08_Parse_0) (s_regencyref08_Parse_0 (.str ⟨s.toArray⟩) (ow (p.map encI)) (.int .i64 n) (.int .i64 d) (.int .i64 i)) h = den T (.loop l_regencyref08_Parse_0) (s_regencyref08_Parse_0 (.str ⟨s.toArray⟩) (ow (p.map encI ++ [[.int .i64 (n : Int)]])) (.int .i64 ((0 : Nat) : Int)) (.int .i64 ((0 : Nat) : Int)) (.int .i64 (i + 1 : Nat))) h := by
        rw [lp_round]
        simp (maxSteps := 2000000) -implicitDefEqProofs (disch := (refine id_ok ?_; first | assumption | omega | (simp [go_sem] <;> omega) | with_unfolding_all rfl | decide)) only [go_sem, Nat.reduceAdd, Nat.reduceSub, Nat.reduceMul, Nat.reduceLeDiff, Nat.reduceEqDiff, Nat.reduceBEq, reduceIte, reduceCtorEq, d1, d2, hge, d3, e7]
        try rfl
      rw [hstep]
      exact ih'
    · have d3 : ((c.toNat : Int) == 46) = false := by
        rw [beq_eq_false_iff_ne]; intro z; exact h46 (UInt8.toNat_inj.1 (by simpa using (show c.toNat = 46 by omega)))
      have e5 := incP (n := d) (by omega)
      rw [if_neg h46]
      by_cases h48 : c.toNat < 48
      · have d4 : decide ((c.toNat : Int) < 48) = true := decide_eq_true (by omega)
        rw [if_pos (.inl h48)]
        refine .inr ⟨rfl, ?_⟩
        rw [lp_round]
        simp (maxSteps := 2000000) -implicitDefEqProofs (disch := (refine id_ok ?_; first | assumption | omega | (simp [go_sem] <;> omega) | with_unfolding_all rfl | decide)) only [go_sem, Nat.reduceAdd, Nat.reduceSub, Nat.reduceMul, Nat.reduceLeDiff, Nat.reduceEqDiff, Nat.reduceBEq, reduceIte, reduceCtorEq, d1, d2, hge, d3, e5, d4]
        exact ⟨_, rfl, rfl, rfl⟩
      · have d4 : decide ((c.toNat : Int) < 48) = false := decide_eq_false (by omega)
        by_cases h57 : 57 < c.toNat
        · have d5 : decide ((c.toNat : Int) > 57) = true := decide_eq_true (by omega)
          rw [if_pos (.inr (.inl h57))]
          refine .inr ⟨rfl, ?_⟩
          rw [lp_round]
          simp (maxSteps := 2000000) -implicitDefEqProofs (disch := (refine id_ok ?_; first | assumption | omega | (simp [go_sem] <;> omega) | with_unfolding_all rfl | decide)) only [go_sem, Nat.reduceAdd, Nat.reduceSub, Nat.reduceMul, Nat.reduceLeDiff, Nat.reduceEqDiff, Nat.reduceBEq, reduceIte, reduceCtorEq, d1, d2, hge, d3, e5, d4, d5]
          exact ⟨_, rfl, rfl, rfl⟩
        · have d5 : decide ((c.toNat : Int) > 57) = false := decide_eq_false (by omega)
          by_cases h7 : 7 < d + 1
          · have d6 : decide (((d + 1 : Nat) : Int) > 7) = true := decide_eq_true (by omega)
            rw [if_pos (.inr (.inr h7))]
            refine .inr ⟨rfl, ?_⟩
            rw [lp_round]
            simp (maxSteps := 2000000) -implicitDefEqProofs (disch := (refine id_ok ?_; first | assumption | omega | (simp [go_sem] <;> omega) | with_unfolding_all rfl | decide)) only [go_sem, Nat.reduceAdd, Nat.reduceSub, Nat.reduceMul, Nat.reduceLeDiff, Nat.reduceEqDiff, Nat.reduceBEq, reduceIte, reduceCtorEq, d1, d2, hge, d3, e5, d4, d5, d6]
            exact ⟨_, rfl, rfl, rfl⟩
          · have d6 : decide (((d + 1 : Nat) : Int) > 7) = false := decide_eq_false (by omega)
            rw [if_neg (by omega)]
            have hp7 : 10 ^ d ≤ 10 ^ 6 := Nat.pow_le_pow_right (by omega) (by omega)
            have ih' := ih (i + 1) (10 * n + (c.toNat - 48)) (d + 1) p (by omega) (by rw [Nat.pow_succ]; omega) (by omega) (by omega)
            have f1 : IntKind.i64.wrap (10 * (n : Int)) = ((10 * n : Nat) : Int) := by rw [w64 (by omega) (by omega)]; omega
            have f2 : IntKind.u8.wrap ((c.toNat : Int) - 48) = ((c.toNat - 48 : Nat) : Int) := by rw [w8]; omega
            have f3 : IntKind.i64.wrap ((c.toNat - 48 : Nat) : Int) = ((c.toNat - 48 : Nat) : Int) := w64 (by omega) (by omega)
            have f4 : IntKind.i64.wrap (((10 * n : Nat) : Int) + ((c.toNat - 48 : Nat) : Int)) = ((10 * n + (c.toNat - 48) : Nat) : Int) := by rw [w64 (by omega) (by omega)]; omega
            have hstep : den T (.loop l_regencyref08_Parse_0) (s_regencyref08_Parse_0 (.str ⟨s.toArray⟩) (ow (p.map encI)) (.int .i64 n) (.int .i64 d) (.int .i64 i)) h = den T (.loop l_regencyref08_Parse_0) (s_regencyref08_Parse_0 (.str ⟨s.toArray⟩) (ow (p.map encI)) (.int .i64 ((10 * n + (c.toNat - 48) : Nat) : Int)) (.int .i64 ((d + 1 : Nat) : Int)) (.int .i64 (i + 1 : Nat))) h := by
              rw [lp_round]
              simp (maxSteps := 2000000) -implicitDefEqProofs (disch := (refine id_ok ?_; first | assumption | omega | (simp [go_sem] <;> omega) | with_unfolding_all rfl | decide)) only [go_sem, Nat.reduceAdd, Nat.reduceSub, Nat.reduceMul, Nat.reduceLeDiff, Nat.reduceEqDiff, Nat.reduceBEq, reduceIte, reduceCtorEq, d1, d2, hge, d3, e5, d4, d5, d6, f1, f2, f3, f4, e7]
              try rfl
            rw [hstep]
            exact ih'
theorem refQ_len : ∀ (l : List UInt8) (n d : Nat) (p q : List Int), refQ l n d p = some q → q.length ≤ p.length + l.length + 1
  | [], n, d, p, q, h => by simp only [refQ, Option.some.injEq] at h; subst h; simp
  | c :: l, n, d, p, q, h => by
    simp only [refQ] at h
    split at h
    · have := refQ_len l _ _ _ _ h
      simp only [List.length_append, List.length_cons, List.length_nil] at this ⊢; omega
    · split at h
      · cases h
      · have := refQ_len l _ _ _ _ h
        simp only [List.length_cons]; omega
theorem rigP_i64 {l : List Int} (h : rigP l = true) : i64L l := fun k hk => by have := (rigP_all h).2 k hk; omega
theorem rq8_run {s : List UInt8} {h : AH} (hs : s.length ≤ 1000000) : run T 90 [.str ⟨s.toArray⟩] h = some (.tup [ow ((prsP s).1.map encI), .bool (prsP s).2], h) := by
  rw [← refP_eq]
  rw [run_code T_90]
  unfold refP
  by_cases h0 : s = []
  · have e1 : (s == []) = true := by rw [h0]; rfl
    rw [if_pos h0]
    simp (maxSteps := 2000000) -implicitDefEqProofs (disch := (refine id_ok ?_; first | assumption | omega | (simp [go_sem] <;> omega) | with_unfolding_all rfl | decide)) only [go_sem, Nat.reduceAdd, Nat.reduceSub, Nat.reduceMul, Nat.reduceLeDiff, Nat.reduceEqDiff, Nat.reduceBEq, reduceIte, reduceCtorEq, c_regencyref08_Parse, e1, List.map_nil]
  · have e1 : (s == []) = false := by simpa using h0
    rw [if_neg h0]
    rcases rq8_loop (h := h) hs s.length 0 0 0 [] (by omega) (by simp) (by omega) (by simp) with ⟨q, h1, h2⟩ | ⟨h1, σ, h2, h3, h4⟩
    · simp only [show ((0 : Nat) : Int) = 0 from rfl, List.drop_zero, List.map_nil] at h1 h2
      rw [h1]
      simp only
      have hql := refQ_len _ _ _ _ _ h1
      simp only [List.length_nil] at hql
      have h5 := fun h => rr8_run (l := q) (h := h) (by omega)
      cases hr : rigP q with
      | false =>
        rw [hr] at h5
        rw [if_neg (by simp)]
        simp (maxSteps := 2000000) -implicitDefEqProofs (disch := (refine id_ok ?_; first | assumption | omega | (simp [go_sem] <;> omega) | with_unfolding_all rfl | decide)) only [go_sem, Nat.reduceAdd, Nat.reduceSub, Nat.reduceMul, Nat.reduceLeDiff, Nat.reduceEqDiff, Nat.reduceBEq, reduceIte, reduceCtorEq, c_regencyref08_Parse, e1, h2, h5, List.map_nil]
      | true =>
        rw [hr] at h5
        have h6 := fun h => rt8_run (l := q) (h := h) (by have := (rigP_all hr).1; omega) (rigP_i64 hr)
        by_cases hd : dotT q = s
        · have e2 : (dotT q == s) = true := by simp [hd]
          rw [if_pos ⟨rfl, hd⟩]
          simp (maxSteps := 2000000) -implicitDefEqProofs (disch := (refine id_ok ?_; first | assumption | omega | (simp [go_sem] <;> omega) | with_unfolding_all rfl | decide)) only [go_sem, Nat.reduceAdd, Nat.reduceSub, Nat.reduceMul, Nat.reduceLeDiff, Nat.reduceEqDiff, Nat.reduceBEq, reduceIte, reduceCtorEq, c_regencyref08_Parse, e1, h2, h5, h6, e2, Bool.not_true]
        · have e2 : (dotT q == s) = false := by simp [hd]
          rw [if_neg (by simp [hd])]
          simp (maxSteps := 2000000) -implicitDefEqProofs (disch := (refine id_ok ?_; first | assumption | omega | (simp [go_sem] <;> omega) | with_unfolding_all rfl | decide)) only [go_sem, Nat.reduceAdd, Nat.reduceSub, Nat.reduceMul, Nat.reduceLeDiff, Nat.reduceEqDiff, Nat.reduceBEq, reduceIte, reduceCtorEq, c_regencyref08_Parse, e1, h2, h5, h6, e2, Bool.not_false, List.map_nil]
    · simp only [show ((0 : Nat) : Int) = 0 from rfl, List.drop_zero, List.map_nil] at h1 h2
      rw [h1]
      simp (maxSteps := 2000000) -implicitDefEqProofs (disch := (refine id_ok ?_; first | assumption | omega | (simp [go_sem] <;> omega) | with_unfolding_all rfl | decide)) only [go_sem, Nat.reduceAdd, Nat.reduceSub, Nat.reduceMul, Nat.reduceLeDiff, Nat.reduceEqDiff, Nat.reduceBEq, reduceIte, reduceCtorEq, c_regencyref08_Parse, e1, h2, h3, h4, List.map_nil]
end Go.Proofs.YtibchilpaaiecaaGreatDoor.L
