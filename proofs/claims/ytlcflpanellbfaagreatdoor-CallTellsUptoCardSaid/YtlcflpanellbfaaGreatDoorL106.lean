/- Calls: which are right. -/
import Derived.Test.YtlcflpanellbfaaGreatDoorL105
set_option linter.all false
set_option maxRecDepth 100000
set_option maxHeartbeats 32000000
namespace Go.Proofs.YtlcflpanellbfaaGreatDoor.L
open Go.Proofs.YtlcflpanellbfaaGreatDoor.M Go.Proofs.YtlcflpanellbfaaGreatDoor.F Go.Proofs
def rgP (c : Cal) (p : Int) : Bool :=
  if p = 0 then rigP c.at_ else if p = 1 then rigL c.lab else if p = 2 then okN c.n else if p = 3 then okN c.m else if p = 4 then rigL c.ent else if p = 5 then rigO c.own else
  if p = 6 then decide (c.text.length ≤ 256) else if p = 7 then rigC c.cat else if p = 8 then rigP c.seg else if p = 10 then decide (c.n ≥ -1048576) && decide (c.n ≤ 1048576) else true
theorem pright_run {c : Cal} {p : Int} (hc : okC c) (hp : 0 ≤ p ∧ p ≤ 10) : run U 39 [.int .i64 p, .agg (encC c)] [] = some (.bool (rgP c p), []) := by
  have q1 := upU (rigP_run (l := c.at_) (h := []))
  have q2 := upU (rigL_run hc.labS)
  have q3 := upU (rigL_run hc.entS)
  have q4 := rigO_run (h := []) hc.ownS
  have q5 := upU (rigP_run (l := c.seg) (h := []))
  have q6 := upU (rigC_run (h := []) hc.catS)
  have q7 := upU (cnum_run (n := c.n) (h := []))
  have q8 := upU (cnum_run (n := c.m) (h := []))
  have q9 : decide ((c.text.length : Int) ≤ 256) = decide (c.text.length ≤ 256) := by congr 1; exact propext (by omega)
  rw [show (decide (c.n ≥ 0) && decide (c.n ≤ 1048576)) = okN c.n from rfl] at q7
  rw [show (decide (c.m ≥ 0) && decide (c.m ≤ 1048576)) = okN c.m from rfl] at q8
  rw [run_code (show U 39 = some (.code c_call_part_right) from rfl)]
  clear hc
  obtain ⟨a1, a2, a3, a4, a5, a6, a7, a8, a9, a10, a11⟩ := c
  simp only [encC] at q1 q2 q3 q4 q5 q6 q7 q8 q9 ⊢
  rcases p_cases hp with rfl | rfl | rfl | rfl | rfl | rfl | rfl | rfl | rfl | rfl | rfl
  all_goals simp only [rgP, Int.reduceEq, if_true, if_false, reduceIte]
  rotate_right 1
  · cases h0 : decide (a6 ≥ -1048576) <;> simp (maxSteps := 4000000) -implicitDefEqProofs (disch := (refine id_ok ?_; first | assumption | omega | (simp [go_sem] <;> omega) | with_unfolding_all rfl | decide)) only [go_sem, Nat.reduceAdd, Nat.reduceSub, Nat.reduceMul, Nat.reduceLeDiff, Nat.reduceEqDiff, Nat.reduceBEq, reduceIte, reduceCtorEq, c_call_part_right, Int.reduceBEq, Int.reduceNeg, h0, Bool.true_and, Bool.false_and]
  all_goals simp (maxSteps := 4000000) -implicitDefEqProofs (disch := (refine id_ok ?_; first | assumption | omega | (simp [go_sem] <;> omega) | with_unfolding_all rfl | decide)) only [go_sem, Nat.reduceAdd, Nat.reduceSub, Nat.reduceMul, Nat.reduceLeDiff, Nat.reduceEqDiff, Nat.reduceBEq, reduceIte, reduceCtorEq, c_call_part_right, q1, q2, q3, q4, q5, q6, q7, q8, List.length_map, q9, Int.reduceBEq]
theorem bad11_run {c : Cal} {p : Int} (hc : okC c) (hp : 0 ≤ p ∧ p ≤ 10) : run U 38 [.int .i64 p, .box 0 0] [.cells (encC c)] = some (.bool (!rgP c p), [.cells (encC c)]) := by
  have h1 := pright_run hc hp
  rw [run_code (show U 38 = some (.code c_call_Right_1) from rfl)]
  generalize rgP c p = r at *
  clear hc
  obtain ⟨a1, a2, a3, a4, a5, a6, a7, a8, a9, a10, a11⟩ := c
  simp only [encC] at h1 ⊢
  simp (maxSteps := 4000000) -implicitDefEqProofs (disch := (refine id_ok ?_; first | assumption | omega | (simp [go_sem] <;> omega) | with_unfolding_all rfl | decide)) only [go_sem, Nat.reduceAdd, Nat.reduceSub, Nat.reduceMul, Nat.reduceLeDiff, Nat.reduceEqDiff, Nat.reduceBEq, reduceIte, reduceCtorEq, c_call_Right_1, h1]
def fnR : AV := .fn (.func 38) [] [.box 0 0]
theorem idx11_loop {c : Cal} {l : List Int} (hc : okC c) (hr : ∀ p ∈ l, 0 ≤ p ∧ p ≤ 10) (hl : l.length ≤ 1000) : ∀ (d i : Nat), d + i = l.length →
    ((l.drop i).all (rgP c) = true ∧ den U (.loop l_slices_IndexFunc_call_part_call_part_0) (s_slices_IndexFunc_call_part_call_part_0 (.sl .sh (l.map encI)) fnR (.int .i64 l.length) (.int .i64 i)) [.cells (encC c)] = some (.exit 0, x_slices_IndexFunc_call_part_call_part_0, [.cells (encC c)])) ∨
    ((l.drop i).all (rgP c) = false ∧ ∃ σ j, den U (.loop l_slices_IndexFunc_call_part_call_part_0) (s_slices_IndexFunc_call_part_call_part_0 (.sl .sh (l.map encI)) fnR (.int .i64 l.length) (.int .i64 i)) [.cells (encC c)] = some (.ret, σ, [.cells (encC c)]) ∧ σ.getD 4 undefA = .int .i64 ((j : Nat) : Int)) := by
  intro d
  induction d with
  | zero =>
    intro i hd
    have hd' : decide ((i : Int) < l.length) = false := decide_eq_false (by omega)
    refine .inl ⟨by rw [List.drop_eq_nil_of_le (by omega)]; rfl, ?_⟩
    rw [lp_round]
    simp -implicitDefEqProofs (disch := (refine id_ok ?_; first | assumption | omega | (simp [go_sem] <;> omega) | with_unfolding_all rfl | decide)) only [go_sem, Nat.reduceAdd, Nat.reduceSub, Nat.reduceMul, Nat.reduceLeDiff, Nat.reduceEqDiff, Nat.reduceBEq, reduceIte, reduceCtorEq, hd', fnR]
  | succ d ih =>
    intro i hd
    have hib : i < l.length := by omega
    have hd' : decide ((i : Int) < l.length) = true := decide_eq_true (by omega)
    have hge : (l.map encI)[(i : Int).toNat]? = some (encI l[i]) := by simp [hib]
    have hdr : l.drop i = l[i] :: l.drop (i + 1) := List.drop_eq_getElem_cons hib
    have e7 := incP (n := i) (by omega)
    have ih' := ih (i + 1) (by omega)
    have hp := hr l[i] (by simp)
    rw [hdr, List.all_cons]
    generalize l[i] = x at *
    have hb := bad11_run hc hp
    simp only [encI] at hge
    generalize hE : encC c = E at *
    cases hx : rgP c x
    · rw [hx] at hb
      refine .inr ⟨rfl, ?_⟩
      rw [lp_round]
      simp (maxSteps := 2000000) -implicitDefEqProofs (disch := (refine id_ok ?_; first | assumption | omega | (simp [go_sem] <;> omega) | with_unfolding_all rfl | decide)) only [go_sem, Nat.reduceAdd, Nat.reduceSub, Nat.reduceMul, Nat.reduceLeDiff, Nat.reduceEqDiff, Nat.reduceBEq, reduceIte, reduceCtorEq, hd', hge, fnR, hb, Bool.not_false]
      exact ⟨_, i, rfl, rfl⟩
    · rw [hx] at hb
      have hstep : den U (.loop l_slices_IndexFunc_call_part_call_part_0) (s_slices_IndexFunc_call_part_call_part_0 (.sl .sh (l.map encI)) fnR (.int .i64 l.length) (.int .i64 i)) [.cells E] = den U (.loop l_slices_IndexFunc_call_part_call_part_0) (s_slices_IndexFunc_call_part_call_part_0 (.sl .sh (l.map encI)) fnR (.int .i64 l.length) (.int .i64 (i + 1 : Nat))) [.cells E] := by
        rw [lp_round]
        simp (maxSteps := 2000000) -implicitDefEqProofs (disch := (refine id_ok ?_; first | assumption | omega | (simp [go_sem] <;> omega) | with_unfolding_all rfl | decide)) only [go_sem, Nat.reduceAdd, Nat.reduceSub, Nat.reduceMul, Nat.reduceLeDiff, Nat.reduceEqDiff, Nat.reduceBEq, reduceIte, reduceCtorEq, hd', hge, fnR, hb, e7, Bool.not_true]
        try rfl
      rw [hstep, Bool.true_and]
      exact ih'
theorem con11_run {c : Cal} {l : List Int} (hc : okC c) (hr : ∀ p ∈ l, 0 ≤ p ∧ p ≤ 10) (hl : l.length ≤ 1000) : run U 36 [.sl .sh (l.map encI), fnR] [.cells (encC c)] = some (.bool (!(l.all (rgP c))), [.cells (encC c)]) := by
  have hi : ∃ n : Int, run U 65 [.sl .sh (l.map encI), fnR] [.cells (encC c)] = some (.int .i64 n, [.cells (encC c)]) ∧ decide (n ≥ 0) = !(l.all (rgP c)) := by
    rw [run_code (show U 65 = some (.code c_slices_IndexFunc_call_part_call_part) from rfl)]
    rcases idx11_loop hc hr hl l.length 0 (by omega) with ⟨h1, h2⟩ | ⟨h1, σ, j, h2, h3⟩
    · simp only [show ((0 : Nat) : Int) = 0 from rfl, List.drop_zero, fnR] at h1 h2
      refine ⟨-1, ?_, by rw [h1]; rfl⟩
      simp (maxSteps := 2000000) -implicitDefEqProofs (disch := (refine id_ok ?_; first | assumption | omega | (simp [go_sem] <;> omega) | with_unfolding_all rfl | decide)) only [go_sem, Nat.reduceAdd, Nat.reduceSub, Nat.reduceMul, Nat.reduceLeDiff, Nat.reduceEqDiff, Nat.reduceBEq, reduceIte, reduceCtorEq, c_slices_IndexFunc_call_part_call_part, List.length_map, fnR, h2]
    · simp only [show ((0 : Nat) : Int) = 0 from rfl, List.drop_zero, fnR] at h1 h2
      refine ⟨j, ?_, by rw [h1]; exact decide_eq_true (by omega)⟩
      simp (maxSteps := 2000000) -implicitDefEqProofs (disch := (refine id_ok ?_; first | assumption | omega | (simp [go_sem] <;> omega) | with_unfolding_all rfl | decide)) only [go_sem, Nat.reduceAdd, Nat.reduceSub, Nat.reduceMul, Nat.reduceLeDiff, Nat.reduceEqDiff, Nat.reduceBEq, reduceIte, reduceCtorEq, c_slices_IndexFunc_call_part_call_part, List.length_map, fnR, h2, h3]
  obtain ⟨n, h1, h2⟩ := hi
  rw [run_code (show U 36 = some (.code c_slices_ContainsFunc_call_part_call_part) from rfl)]
  simp only [fnR] at h1 ⊢
  simp (maxSteps := 2000000) -implicitDefEqProofs (disch := (refine id_ok ?_; first | assumption | omega | (simp [go_sem] <;> omega) | with_unfolding_all rfl | decide)) only [go_sem, Nat.reduceAdd, Nat.reduceSub, Nat.reduceMul, Nat.reduceLeDiff, Nat.reduceEqDiff, Nat.reduceBEq, reduceIte, reduceCtorEq, c_slices_ContainsFunc_call_part_call_part, h1, h2]
def rigCal (c : Cal) : Bool := decide (c.op ≥ 0) && decide (c.op ≤ 20) && decide (plC c = c) && (pL c.op).all (rgP c)
theorem plnS_ok {c o : Cal} (hc : okC c) (ho : okC o) (p : Int) : okC (plnS c o p) := by
  by_cases h0 : p = 0
  · rw [plnS, if_pos h0]; exact ⟨hc.at_, ho.lab, ho.ent, ho.own, ho.text, ho.seg, ho.labS, ho.entS, ho.ownS, ho.catS⟩
  by_cases h1 : p = 1
  · rw [plnS, if_neg h0, if_pos h1]; exact ⟨ho.at_, hc.lab, ho.ent, ho.own, ho.text, ho.seg, hc.labS, ho.entS, ho.ownS, ho.catS⟩
  by_cases h2 : p = 2
  · rw [plnS, if_neg h0, if_neg h1, if_pos h2]; exact ⟨ho.at_, ho.lab, ho.ent, ho.own, ho.text, ho.seg, ho.labS, ho.entS, ho.ownS, ho.catS⟩
  by_cases h3 : p = 3
  · rw [plnS, if_neg h0, if_neg h1, if_neg h2, if_pos h3]; exact ⟨ho.at_, ho.lab, ho.ent, ho.own, ho.text, ho.seg, ho.labS, ho.entS, ho.ownS, ho.catS⟩
  by_cases h4 : p = 4
  · rw [plnS, if_neg h0, if_neg h1, if_neg h2, if_neg h3, if_pos h4]; exact ⟨ho.at_, ho.lab, hc.ent, ho.own, ho.text, ho.seg, ho.labS, hc.entS, ho.ownS, ho.catS⟩
  by_cases h5 : p = 5
  · rw [plnS, if_neg h0, if_neg h1, if_neg h2, if_neg h3, if_neg h4, if_pos h5]; exact ⟨ho.at_, ho.lab, ho.ent, hc.own, ho.text, ho.seg, ho.labS, ho.entS, hc.ownS, ho.catS⟩
  by_cases h6 : p = 6
  · rw [plnS, if_neg h0, if_neg h1, if_neg h2, if_neg h3, if_neg h4, if_neg h5, if_pos h6]; exact ⟨ho.at_, ho.lab, ho.ent, ho.own, hc.text, ho.seg, ho.labS, ho.entS, ho.ownS, ho.catS⟩
  by_cases h7 : p = 7
  · rw [plnS, if_neg h0, if_neg h1, if_neg h2, if_neg h3, if_neg h4, if_neg h5, if_neg h6, if_pos h7]; exact ⟨ho.at_, ho.lab, ho.ent, ho.own, ho.text, ho.seg, ho.labS, ho.entS, ho.ownS, hc.catS⟩
  by_cases h8 : p = 8
  · rw [plnS, if_neg h0, if_neg h1, if_neg h2, if_neg h3, if_neg h4, if_neg h5, if_neg h6, if_neg h7, if_pos h8]; exact ⟨ho.at_, ho.lab, ho.ent, ho.own, ho.text, hc.seg, ho.labS, ho.entS, ho.ownS, ho.catS⟩
  by_cases h9 : p = 9
  · rw [plnS, if_neg h0, if_neg h1, if_neg h2, if_neg h3, if_neg h4, if_neg h5, if_neg h6, if_neg h7, if_neg h8, if_pos h9]; exact ⟨ho.at_, ho.lab, ho.ent, ho.own, ho.text, ho.seg, ho.labS, ho.entS, ho.ownS, ho.catS⟩
  by_cases h10 : p = 10
  · rw [plnS, if_neg h0, if_neg h1, if_neg h2, if_neg h3, if_neg h4, if_neg h5, if_neg h6, if_neg h7, if_neg h8, if_neg h9, if_pos h10]; exact ⟨ho.at_, ho.lab, ho.ent, ho.own, ho.text, ho.seg, ho.labS, ho.entS, ho.ownS, ho.catS⟩
  rw [plnS, if_neg h0, if_neg h1, if_neg h2, if_neg h3, if_neg h4, if_neg h5, if_neg h6, if_neg h7, if_neg h8, if_neg h9, if_neg h10]; exact ho
theorem zeroC_ok (op : Int) : okC (zeroC op) := by
  have h : shS (zeroC op).own := fun e he => by cases he
  exact ⟨by simp [zeroC], by simp [zeroC], by simp [zeroC], by simp [zeroC], by simp [zeroC], by simp [zeroC], (fun e he => by cases he), (fun e he => by cases he), h, by simp [zeroC]⟩
theorem fold_ok {c : Cal} (hc : okC c) : ∀ (l : List Int) (o : Cal), okC o → okC (l.foldl (plnS c) o)
  | [], o, ho => ho
  | p :: l, o, ho => fold_ok hc l _ (plnS_ok hc ho p)
theorem plC_ok {c : Cal} (hc : okC c) : okC (plC c) := fold_ok hc _ _ (zeroC_ok _)
theorem right_run {c : Cal} (hc : okC c) : run U 9 [.agg (encC c)] [] = some (.bool (rigCal c), []) := by
  have h1 := upU (known_run (op := c.op) (h := []))
  have h2 := upU (plain_run hc)
  have h3 := upU (same_run (b := c) (plC_ok hc))
  have h4 := upU (parts_run (op := c.op))
  have h5 := con11_run (l := pL c.op) hc (pL_rng c.op).2 (by have := (pL_rng c.op).1; omega)
  rw [run_code (show U 9 = some (.code c_call_Right) from rfl)]
  unfold rigCal
  simp only [fnR] at h5
  generalize (decide (c.op ≥ 0) && decide (c.op ≤ 20)) = d1 at *
  generalize plC c = q at *
  generalize decide (q = c) = d2 at *
  generalize (pL c.op).all (rgP c) = d3 at *
  clear hc
  obtain ⟨a1, a2, a3, a4, a5, a6, a7, a8, a9, a10, a11⟩ := c
  obtain ⟨b1, b2, b3, b4, b5, b6, b7, b8, b9, b10, b11⟩ := q
  simp only [encC] at h1 h2 h3 h4 h5 ⊢
  generalize pL a1 = ps at *
  cases d1
  · simp (maxSteps := 4000000) -implicitDefEqProofs (disch := (refine id_ok ?_; first | assumption | omega | (simp [go_sem] <;> omega) | with_unfolding_all rfl | decide)) only [go_sem, Nat.reduceAdd, Nat.reduceSub, Nat.reduceMul, Nat.reduceLeDiff, Nat.reduceEqDiff, Nat.reduceBEq, reduceIte, reduceCtorEq, c_call_Right, h1, Bool.false_and]
  cases d2
  · simp (maxSteps := 4000000) -implicitDefEqProofs (disch := (refine id_ok ?_; first | assumption | omega | (simp [go_sem] <;> omega) | with_unfolding_all rfl | decide)) only [go_sem, Nat.reduceAdd, Nat.reduceSub, Nat.reduceMul, Nat.reduceLeDiff, Nat.reduceEqDiff, Nat.reduceBEq, reduceIte, reduceCtorEq, c_call_Right, h1, h2, h3, Bool.false_and, Bool.true_and]
  cases d3
  · simp (maxSteps := 4000000) -implicitDefEqProofs (disch := (refine id_ok ?_; first | assumption | omega | (simp [go_sem] <;> omega) | with_unfolding_all rfl | decide)) only [go_sem, Nat.reduceAdd, Nat.reduceSub, Nat.reduceMul, Nat.reduceLeDiff, Nat.reduceEqDiff, Nat.reduceBEq, reduceIte, reduceCtorEq, c_call_Right, h1, h2, h3, h4, h5, Bool.false_and, Bool.true_and, Bool.not_false]
  · simp (maxSteps := 4000000) -implicitDefEqProofs (disch := (refine id_ok ?_; first | assumption | omega | (simp [go_sem] <;> omega) | with_unfolding_all rfl | decide)) only [go_sem, Nat.reduceAdd, Nat.reduceSub, Nat.reduceMul, Nat.reduceLeDiff, Nat.reduceEqDiff, Nat.reduceBEq, reduceIte, reduceCtorEq, c_call_Right, h1, h2, h3, h4, h5, Bool.false_and, Bool.true_and, Bool.not_true]
end Go.Proofs.YtlcflpanellbfaaGreatDoor.L
