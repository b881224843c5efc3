/- The document's replies: which are right; the same. -/
import Derived.Test.YtjeigcnaalleiaaGreatDoorL43
import Derived.Test.YtjeigcnaalleiaaGreatDoorL44
set_option linter.all false
set_option maxRecDepth 100000
namespace Go.Proofs.YtjeigcnaalleiaaGreatDoor.L
open Go.Proofs.YtjeigcnaalleiaaGreatDoor.M Go.Proofs.YtjeigcnaalleiaaGreatDoor.F Go.Proofs

/-! ### a reply is the same as itself -/
theorem ba_self (a : ByteArray) : (a == a) = true := by
  obtain ⟨d⟩ := a
  show ByteArray.beq ⟨d⟩ ⟨d⟩ = true
  first
  | exact beq_self_eq_true d
  | (unfold ByteArray.beq; simp)
theorem eqE_self {a : List UInt8} {m : Int} : eqI [.str ⟨a.toArray⟩, .int .i64 m] [.str ⟨a.toArray⟩, .int .i64 m] [(0, .string), (1, .int .i64)] = some true := by
  simp [eqI, keyD, eqK, ba_self]
theorem eqK_self {a b c : Int} : eqI [.int .i64 a, .int .i64 b, .int .i64 c] [.int .i64 a, .int .i64 b, .int .i64 c] [(0, .int .i64), (1, .int .i64), (2, .int .i64)] = some true := by
  simp [eqI, keyD, eqK]
theorem same6_loop {l : List Ent} {h : AH} (hl : l.length ≤ 1000000000) : ∀ (d i : Nat), d + i = l.length →
    den T (.loop l_regencyref06_Same_0) (s_regencyref06_Same_0 (.sl .sh (l.map encE)) (.sl .sh (l.map encE)) (.int .i64 l.length) (.int .i64 i)) h = some (.exit 0, x_regencyref06_Same_0, h) := by
  intro d
  induction d with
  | zero =>
    intro i hd
    have hd' : decide ((i : Int) < l.length) = false := decide_eq_false (by omega)
    rw [lp_round]
    simp -implicitDefEqProofs (disch := (refine id_ok ?_; first | assumption | omega | (simp only [go_sem, List.size_toArray, List.length_map, List.length_append, List.length_take, List.length_drop, List.length_cons, List.length_nil, mrLL_app, keyD_i, keyD_s, keyD_b, Nat.reduceAdd, Nat.reduceEqDiff, Nat.reduceLeDiff] <;> omega) | with_unfolding_all rfl | decide)) only [go_sem, Nat.reduceAdd, Nat.reduceSub, Nat.reduceMul, Nat.reduceLeDiff, Nat.reduceEqDiff, Nat.reduceBEq, reduceIte, reduceCtorEq, hd']
  | succ d ih =>
    intro i hd
    have hib : i < l.length := by omega
    have hd' : decide ((i : Int) < l.length) = true := decide_eq_true (by omega)
    have hge : (l.map encE)[(i : Int).toNat]? = some (encE l[i]) := by simp [hib]
    have e7 := inc64 (n := i) (by omega)
    have ih' := ih (i + 1) (by omega)
    generalize l[i] = e at *
    obtain ⟨c, v⟩ := e
    rw [lp_round]
    simp -implicitDefEqProofs (disch := (refine id_ok ?_; first | assumption | omega | (simp only [go_sem, List.size_toArray, List.length_map, List.length_append, List.length_take, List.length_drop, List.length_cons, List.length_nil, mrLL_app, keyD_i, keyD_s, keyD_b, Nat.reduceAdd, Nat.reduceEqDiff, Nat.reduceLeDiff] <;> omega) | with_unfolding_all rfl | decide)) only [go_sem, Nat.reduceAdd, Nat.reduceSub, Nat.reduceMul, Nat.reduceLeDiff, Nat.reduceEqDiff, Nat.reduceBEq, reduceIte, reduceCtorEq, hd', hge, encE, eqE_self, e7]
    exact ih'
theorem same6_run {l : List Ent} {h : AH} (hl : l.length ≤ 1000000000) : run T 38 [.sl .sh (l.map encE), .sl .sh (l.map encE)] h = some (.bool true, h) := by
  have h1 := same6_loop (h := h) hl l.length 0 (by omega)
  simp only [show ((0 : Nat) : Int) = 0 from rfl] at h1
  rw [run_code T_38]
  simp -implicitDefEqProofs (disch := (refine id_ok ?_; first | assumption | omega | (simp only [go_sem, List.size_toArray, List.length_map, List.length_append, List.length_take, List.length_drop, List.length_cons, List.length_nil, mrLL_app, keyD_i, keyD_s, keyD_b, Nat.reduceAdd, Nat.reduceEqDiff, Nat.reduceLeDiff] <;> omega) | with_unfolding_all rfl | decide)) only [go_sem, Nat.reduceAdd, Nat.reduceSub, Nat.reduceMul, Nat.reduceLeDiff, Nat.reduceEqDiff, Nat.reduceBEq, reduceIte, reduceCtorEq, c_regencyref06_Same, List.length_map, h1]
theorem same_loop {r : Rep} (hk : r.kids.length ≤ 1000000000) : ∀ (d i : Nat), d + i = r.kids.length →
    den T (.loop l_regencyref12_Same_0) (s_regencyref12_Same_0 (.box 0 0) (.box 1 0) (.int .i64 r.kids.length) (.int .i64 i)) [.cells (encR r), .cells (encR r)] = some (.exit 0, x_regencyref12_Same_0, [.cells (encR r), .cells (encR r)]) := by
  intro d
  induction d with
  | zero =>
    intro i hd
    have hd' : decide ((i : Int) < r.kids.length) = false := decide_eq_false (by omega)
    rw [lp_round]
    simp -implicitDefEqProofs (disch := (refine id_ok ?_; first | assumption | omega | (simp only [go_sem, List.size_toArray, List.length_map, List.length_append, List.length_take, List.length_drop, List.length_cons, List.length_nil, mrLL_app, keyD_i, keyD_s, keyD_b, Nat.reduceAdd, Nat.reduceEqDiff, Nat.reduceLeDiff] <;> omega) | with_unfolding_all rfl | decide)) only [go_sem, Nat.reduceAdd, Nat.reduceSub, Nat.reduceMul, Nat.reduceLeDiff, Nat.reduceEqDiff, Nat.reduceBEq, reduceIte, reduceCtorEq, hd']
  | succ d ih =>
    intro i hd
    have hib : i < r.kids.length := by omega
    have hd' : decide ((i : Int) < r.kids.length) = true := decide_eq_true (by omega)
    have hge : (r.kids.map encK)[(i : Int).toNat]? = some (encK r.kids[i]) := by simp [hib]
    have e7 := inc64 (n := i) (by omega)
    have ih' := ih (i + 1) (by omega)
    generalize r.kids[i] = e at *
    obtain ⟨a, b, c⟩ := e
    simp only [encR] at ih' ⊢
    rw [lp_round]
    simp (maxSteps := 2000000) -implicitDefEqProofs (disch := (refine id_ok ?_; first | assumption | omega | (simp only [go_sem, List.size_toArray, List.length_map, List.length_append, List.length_take, List.length_drop, List.length_cons, List.length_nil, mrLL_app, keyD_i, keyD_s, keyD_b, Nat.reduceAdd, Nat.reduceEqDiff, Nat.reduceLeDiff] <;> omega) | with_unfolding_all rfl | decide)) only [go_sem, Nat.reduceAdd, Nat.reduceSub, Nat.reduceMul, Nat.reduceLeDiff, Nat.reduceEqDiff, Nat.reduceBEq, reduceIte, reduceCtorEq, hd', hge, encK, eqK_self, e7]
    exact ih'
theorem same_run {r : Rep} (hk : r.kids.length ≤ 1000000000) (hl : r.label.length ≤ 1000000000) : run T 16 [.agg (encR r), .agg (encR r)] [] = some (.bool true, []) := by
  have h1 := same_loop hk r.kids.length 0 (by omega)
  have h2 := same6_run (l := r.label) (h := []) hl
  simp only [show ((0 : Nat) : Int) = 0 from rfl, encR] at h1
  rw [run_code T_16]
  simp (maxSteps := 2000000) -implicitDefEqProofs (disch := (refine id_ok ?_; first | assumption | omega | (simp only [go_sem, List.size_toArray, List.length_map, List.length_append, List.length_take, List.length_drop, List.length_cons, List.length_nil, mrLL_app, keyD_i, keyD_s, keyD_b, Nat.reduceAdd, Nat.reduceEqDiff, Nat.reduceLeDiff] <;> omega) | with_unfolding_all rfl | decide)) only [go_sem, Nat.reduceAdd, Nat.reduceSub, Nat.reduceMul, Nat.reduceLeDiff, Nat.reduceEqDiff, Nat.reduceBEq, reduceIte, reduceCtorEq, c_regencyref12_Same, encR, List.length_map, h1, h2]
/-! ### right replies -/
theorem in_run {n a b : Int} {h : AH} : run T 48 [.int .i64 n, .int .i64 a, .int .i64 b] h = some (.bool (bet n a b), h) := by
  rw [run_code T_48]
  unfold bet
  by_cases h1 : a ≤ n
  · have e1 : decide (n ≥ a) = true := decide_eq_true h1
    have e1' : decide (a ≤ n) = true := decide_eq_true h1
    simp -implicitDefEqProofs (disch := (refine id_ok ?_; first | assumption | omega | (simp only [go_sem, List.size_toArray, List.length_map, List.length_append, List.length_take, List.length_drop, List.length_cons, List.length_nil, mrLL_app, keyD_i, keyD_s, keyD_b, Nat.reduceAdd, Nat.reduceEqDiff, Nat.reduceLeDiff] <;> omega) | with_unfolding_all rfl | decide)) only [go_sem, Nat.reduceAdd, Nat.reduceSub, Nat.reduceMul, Nat.reduceLeDiff, Nat.reduceEqDiff, Nat.reduceBEq, reduceIte, reduceCtorEq, c_regencyref12_in, e1, e1', Bool.true_and]
  · have e1 : decide (n ≥ a) = false := decide_eq_false h1
    have e1' : decide (a ≤ n) = false := decide_eq_false h1
    simp -implicitDefEqProofs (disch := (refine id_ok ?_; first | assumption | omega | (simp only [go_sem, List.size_toArray, List.length_map, List.length_append, List.length_take, List.length_drop, List.length_cons, List.length_nil, mrLL_app, keyD_i, keyD_s, keyD_b, Nat.reduceAdd, Nat.reduceEqDiff, Nat.reduceLeDiff] <;> omega) | with_unfolding_all rfl | decide)) only [go_sem, Nat.reduceAdd, Nat.reduceSub, Nat.reduceMul, Nat.reduceLeDiff, Nat.reduceEqDiff, Nat.reduceBEq, reduceIte, reduceCtorEq, c_regencyref12_in, e1]
    rfl
set_option maxHeartbeats 8000000 in
theorem rr_loop {r : Rep} (hk : r.kids.length ≤ 1000000000) : ∀ (d i : Nat) (ok : Bool) (js : AH), d + i = r.kids.length →
    den T (.loop l_regencyref12_Right_0) (s_regencyref12_Right_0 (.box 0 0) (.bool ok) (.sl .sh (r.kids.map encK)) (.int .i64 r.kids.length) (.int .i64 i)) (.cells (encR r) :: js) = some (.exit 0, x_regencyref12_Right_0 (.bool (ok && rigK (prvK r.kids i) (r.kids.drop i))), .cells (encR r) :: (js ++ (r.kids.drop i).map bxK)) := by
  intro d
  induction d with
  | zero =>
    intro i ok js hd
    have hd' : decide ((i : Int) < r.kids.length) = false := decide_eq_false (by omega)
    have e0 : (ok && rigK (prvK r.kids i) []) = ok := by cases ok <;> rfl
    rw [List.drop_eq_nil_of_le (by omega), e0, List.map_nil, List.append_nil]
    rw [lp_round]
    simp -implicitDefEqProofs (disch := (refine id_ok ?_; first | assumption | omega | (simp only [go_sem, List.size_toArray, List.length_map, List.length_append, List.length_take, List.length_drop, List.length_cons, List.length_nil, mrLL_app, keyD_i, keyD_s, keyD_b, Nat.reduceAdd, Nat.reduceEqDiff, Nat.reduceLeDiff] <;> omega) | with_unfolding_all rfl | decide)) only [go_sem, Nat.reduceAdd, Nat.reduceSub, Nat.reduceMul, Nat.reduceLeDiff, Nat.reduceEqDiff, Nat.reduceBEq, reduceIte, reduceCtorEq, hd']
  | succ d ih =>
    intro i ok js hd
    have hib : i < r.kids.length := by omega
    have hd' : decide ((i : Int) < r.kids.length) = true := decide_eq_true (by omega)
    have hge : (r.kids.map encK)[(i : Int).toNat]? = some (encK r.kids[i]) := by simp [hib]
    have hdr : r.kids.drop i = r.kids[i] :: r.kids.drop (i + 1) := List.drop_eq_getElem_cons hib
    have hpr : prvK r.kids (i + 1) = some r.kids[i].1 := by simp [prvK, hib]
    have e7 := inc64 (n := i) (by omega)
    have hprv : i ≠ 0 → ∃ p : Kd, (r.kids.map encK)[((i : Int) - 1).toNat]? = some (encK p) ∧ prvK r.kids i = some p.1 := by
      intro h0
      have hj : i - 1 < r.kids.length := by omega
      refine ⟨r.kids[i - 1], ?_, ?_⟩
      · rw [show ((i : Int) - 1).toNat = i - 1 by omega]; simp [hj]
      · simp [prvK, h0, hj]
    have ih' := fun ok' => ih (i + 1) ok' (js ++ [bxK r.kids[i]]) (by omega)
    rw [hdr]
    rw [hpr] at ih'
    generalize r.kids[i] = e at *
    obtain ⟨a, b, c⟩ := e
    have b1 := in_run (n := a) (a := 0) (b := 1048576) (h := [])
    have b2 := in_run (n := b) (a := 1) (b := 5) (h := [])
    have b3 := in_run (n := c) (a := 0) (b := 1048576) (h := [])
    have go : ∀ ok', (ok && rigK (prvK r.kids i) ((a, b, c) :: r.kids.drop (i + 1))) = (ok' && rigK (some a) (r.kids.drop (i + 1))) →
        den T (.loop l_regencyref12_Right_0) (s_regencyref12_Right_0 (.box 0 0) (.bool ok) (.sl .sh (r.kids.map encK)) (.int .i64 r.kids.length) (.int .i64 i)) (.cells (encR r) :: js) = den T (.loop l_regencyref12_Right_0) (s_regencyref12_Right_0 (.box 0 0) (.bool ok') (.sl .sh (r.kids.map encK)) (.int .i64 r.kids.length) (.int .i64 (i + 1 : Nat))) (.cells (encR r) :: (js ++ [bxK (a, b, c)])) →
        den T (.loop l_regencyref12_Right_0) (s_regencyref12_Right_0 (.box 0 0) (.bool ok) (.sl .sh (r.kids.map encK)) (.int .i64 r.kids.length) (.int .i64 i)) (.cells (encR r) :: js) = some (.exit 0, x_regencyref12_Right_0 (.bool (ok && rigK (prvK r.kids i) ((a, b, c) :: r.kids.drop (i + 1)))), .cells (encR r) :: (js ++ ((a, b, c) :: r.kids.drop (i + 1)).map bxK)) := by
      intro ok' h1 h2
      rw [h2, h1, ih' ok']
      simp
    cases ok with
    | false =>
      refine go false (by simp) ?_
      simp only [encR, bxK]
      rw [lp_round]
      simp (maxSteps := 2000000) -implicitDefEqProofs (disch := (refine id_ok ?_; first | assumption | omega | (simp only [go_sem, List.size_toArray, List.length_map, List.length_append, List.length_take, List.length_drop, List.length_cons, List.length_nil, mrLL_app, keyD_i, keyD_s, keyD_b, Nat.reduceAdd, Nat.reduceEqDiff, Nat.reduceLeDiff] <;> omega) | with_unfolding_all rfl | decide)) only [go_sem, Nat.reduceAdd, Nat.reduceSub, Nat.reduceMul, Nat.reduceLeDiff, Nat.reduceEqDiff, Nat.reduceBEq, reduceIte, reduceCtorEq, hd', hge, encK, app_get0, app_set0, e7]
    | true =>
      cases y1 : bet a 0 1048576 with
      | false =>
        rw [y1] at b1
        refine go false (by simp [rigK, y1]) ?_
        simp only [encR, bxK]
        rw [lp_round]
        simp (maxSteps := 2000000) -implicitDefEqProofs (disch := (refine id_ok ?_; first | assumption | omega | (simp only [go_sem, List.size_toArray, List.length_map, List.length_append, List.length_take, List.length_drop, List.length_cons, List.length_nil, mrLL_app, keyD_i, keyD_s, keyD_b, Nat.reduceAdd, Nat.reduceEqDiff, Nat.reduceLeDiff] <;> omega) | with_unfolding_all rfl | decide)) only [go_sem, Nat.reduceAdd, Nat.reduceSub, Nat.reduceMul, Nat.reduceLeDiff, Nat.reduceEqDiff, Nat.reduceBEq, reduceIte, reduceCtorEq, hd', hge, encK, app_get0, app_set0, e7, b1]
      | true =>
        rw [y1] at b1
        cases y2 : bet b 1 5 with
        | false =>
          rw [y2] at b2
          refine go false (by simp [rigK, y2]) ?_
          simp only [encR, bxK]
          rw [lp_round]
          simp (maxSteps := 2000000) -implicitDefEqProofs (disch := (refine id_ok ?_; first | assumption | omega | (simp only [go_sem, List.size_toArray, List.length_map, List.length_append, List.length_take, List.length_drop, List.length_cons, List.length_nil, mrLL_app, keyD_i, keyD_s, keyD_b, Nat.reduceAdd, Nat.reduceEqDiff, Nat.reduceLeDiff] <;> omega) | with_unfolding_all rfl | decide)) only [go_sem, Nat.reduceAdd, Nat.reduceSub, Nat.reduceMul, Nat.reduceLeDiff, Nat.reduceEqDiff, Nat.reduceBEq, reduceIte, reduceCtorEq, hd', hge, encK, app_get0, app_set0, e7, b1, b2]
        | true =>
          rw [y2] at b2
          cases y3 : bet c 0 1048576 with
          | false =>
            rw [y3] at b3
            refine go false (by simp [rigK, y3]) ?_
            simp only [encR, bxK]
            rw [lp_round]
            simp (maxSteps := 2000000) -implicitDefEqProofs (disch := (refine id_ok ?_; first | assumption | omega | (simp only [go_sem, List.size_toArray, List.length_map, List.length_append, List.length_take, List.length_drop, List.length_cons, List.length_nil, mrLL_app, keyD_i, keyD_s, keyD_b, Nat.reduceAdd, Nat.reduceEqDiff, Nat.reduceLeDiff] <;> omega) | with_unfolding_all rfl | decide)) only [go_sem, Nat.reduceAdd, Nat.reduceSub, Nat.reduceMul, Nat.reduceLeDiff, Nat.reduceEqDiff, Nat.reduceBEq, reduceIte, reduceCtorEq, hd', hge, encK, app_get0, app_set0, e7, b1, b2, b3]
          | true =>
            rw [y3] at b3
            by_cases h0 : i = 0
            · have e4 : ((i : Int) == 0) = true := by simp [h0]
              have hp0 : prvK r.kids i = none := by simp [prvK, h0]
              refine go true (by rw [hp0]; simp [rigK, y1, y2, y3]) ?_
              simp only [encR, bxK]
              rw [lp_round]
              simp (maxSteps := 2000000) -implicitDefEqProofs (disch := (refine id_ok ?_; first | assumption | omega | (simp only [go_sem, List.size_toArray, List.length_map, List.length_append, List.length_take, List.length_drop, List.length_cons, List.length_nil, mrLL_app, keyD_i, keyD_s, keyD_b, Nat.reduceAdd, Nat.reduceEqDiff, Nat.reduceLeDiff] <;> omega) | with_unfolding_all rfl | decide)) only [go_sem, Nat.reduceAdd, Nat.reduceSub, Nat.reduceMul, Nat.reduceLeDiff, Nat.reduceEqDiff, Nat.reduceBEq, reduceIte, reduceCtorEq, hd', hge, encK, app_get0, app_set0, e7, b1, b2, b3, e4]
            · have e4 : ((i : Int) == 0) = false := by simp [h0]
              obtain ⟨q, hq1, hq2⟩ := hprv h0
              have e5 : IntKind.i64.wrap ((i : Int) - 1) = (i : Int) - 1 := w64 (by omega) (by omega)
              refine go (decide (q.1 < a)) (by rw [hq2]; simp [rigK, y1, y2, y3]) ?_
              simp only [encR, bxK]
              simp only [encK] at hq1
              rw [lp_round]
              simp (maxSteps := 2000000) -implicitDefEqProofs (disch := (refine id_ok ?_; first | assumption | omega | (simp only [go_sem, List.size_toArray, List.length_map, List.length_append, List.length_take, List.length_drop, List.length_cons, List.length_nil, mrLL_app, keyD_i, keyD_s, keyD_b, Nat.reduceAdd, Nat.reduceEqDiff, Nat.reduceLeDiff] <;> omega) | with_unfolding_all rfl | decide)) only [go_sem, Nat.reduceAdd, Nat.reduceSub, Nat.reduceMul, Nat.reduceLeDiff, Nat.reduceEqDiff, Nat.reduceBEq, reduceIte, reduceCtorEq, hd', hge, encK, app_get0, app_set0, e7, b1, b2, b3, e4, e5, hq1]
theorem rigR_eq (r : Rep) : rigR r = (((bet r.e 0 99 && (bet r.n 0 1099511627776 && (decide (r.text.length ≤ 256) && (rigL r.label && decide (r.kids.length ≤ 16))))) && (r.cat == [] || rigC r.cat)) && rigK none r.kids) := by
  unfold rigR
  generalize (bet r.e 0 99 && (bet r.n 0 1099511627776 && (decide (r.text.length ≤ 256) && (rigL r.label && decide (r.kids.length ≤ 16))))) = x
  generalize (r.cat == [] || rigC r.cat) = y
  generalize rigK none r.kids = z
  cases x <;> cases y <;> cases z <;> rfl
set_option maxHeartbeats 16000000 in
theorem rrigR_run {r : Rep} (hk : r.kids.length ≤ 1000000000) (hc : r.cat.length ≤ 1000000000) (hl : ∀ e ∈ r.label, e.1.length ≤ 1000000000) : run T 23 [.agg (encR r)] [] = some (.bool (rigR r), []) := by
  have hlp := fun ok js => rr_loop hk r.kids.length 0 ok js (by omega)
  simp only [List.drop_zero, show ((0 : Nat) : Int) = 0 from rfl, show prvK r.kids 0 = none from rfl] at hlp
  have r1 := refC_run hc
  have r2 := rrig_run (h := []) hl
  have b1 := in_run (n := r.e) (a := 0) (b := 99) (h := [])
  have b2 := in_run (n := r.n) (a := 0) (b := 1099511627776) (h := [])
  have t3 : decide ((r.text.length : Int) ≤ 256) = decide (r.text.length ≤ 256) := decide_eq_decide.2 (by omega)
  have t4 : decide ((r.kids.length : Int) ≤ 16) = decide (r.kids.length ≤ 16) := decide_eq_decide.2 (by omega)
  rw [run_code T_23, rigR_eq]
  unfold rigC
  generalize parC r.cat = pc at *
  obtain ⟨pp, pn, pb⟩ := pc
  simp only at r1 ⊢
  simp only [encR] at hlp ⊢
  generalize rigK none r.kids = rk at *
  generalize decide (r.kids.length ≤ 16) = y5 at *
  generalize decide (r.text.length ≤ 256) = y3 at *
  generalize rigL r.label = y4 at *
  generalize bet r.e 0 99 = y1 at *
  generalize bet r.n 0 1099511627776 = y2 at *
  generalize List.map bxK r.kids = KS at *
  cases hcat : (r.cat == []) with
  | true =>
    have hc2 : (!true) = false := rfl
    rw [Bool.true_or, Bool.and_true]
    cases y1
    · simp (maxSteps := 2000000) -implicitDefEqProofs (disch := (refine id_ok ?_; first | assumption | omega | (simp only [go_sem, List.size_toArray, List.length_map, List.length_append, List.length_take, List.length_drop, List.length_cons, List.length_nil, mrLL_app, keyD_i, keyD_s, keyD_b, Nat.reduceAdd, Nat.reduceEqDiff, Nat.reduceLeDiff] <;> omega) | with_unfolding_all rfl | decide)) only [go_sem, Nat.reduceAdd, Nat.reduceSub, Nat.reduceMul, Nat.reduceLeDiff, Nat.reduceEqDiff, Nat.reduceBEq, reduceIte, reduceCtorEq, c_regencyref12_Right, List.length_map, hlp, hcat, b1, Bool.false_and]
    cases y2
    · simp (maxSteps := 2000000) -implicitDefEqProofs (disch := (refine id_ok ?_; first | assumption | omega | (simp only [go_sem, List.size_toArray, List.length_map, List.length_append, List.length_take, List.length_drop, List.length_cons, List.length_nil, mrLL_app, keyD_i, keyD_s, keyD_b, Nat.reduceAdd, Nat.reduceEqDiff, Nat.reduceLeDiff] <;> omega) | with_unfolding_all rfl | decide)) only [go_sem, Nat.reduceAdd, Nat.reduceSub, Nat.reduceMul, Nat.reduceLeDiff, Nat.reduceEqDiff, Nat.reduceBEq, reduceIte, reduceCtorEq, c_regencyref12_Right, List.length_map, hlp, hcat, b1, b2, Bool.false_and, Bool.true_and]
    cases y3
    · simp (maxSteps := 2000000) -implicitDefEqProofs (disch := (refine id_ok ?_; first | assumption | omega | (simp only [go_sem, List.size_toArray, List.length_map, List.length_append, List.length_take, List.length_drop, List.length_cons, List.length_nil, mrLL_app, keyD_i, keyD_s, keyD_b, Nat.reduceAdd, Nat.reduceEqDiff, Nat.reduceLeDiff] <;> omega) | with_unfolding_all rfl | decide)) only [go_sem, Nat.reduceAdd, Nat.reduceSub, Nat.reduceMul, Nat.reduceLeDiff, Nat.reduceEqDiff, Nat.reduceBEq, reduceIte, reduceCtorEq, c_regencyref12_Right, List.length_map, hlp, hcat, b1, b2, t3, Bool.false_and, Bool.true_and]
    cases y4
    · simp (maxSteps := 2000000) -implicitDefEqProofs (disch := (refine id_ok ?_; first | assumption | omega | (simp only [go_sem, List.size_toArray, List.length_map, List.length_append, List.length_take, List.length_drop, List.length_cons, List.length_nil, mrLL_app, keyD_i, keyD_s, keyD_b, Nat.reduceAdd, Nat.reduceEqDiff, Nat.reduceLeDiff] <;> omega) | with_unfolding_all rfl | decide)) only [go_sem, Nat.reduceAdd, Nat.reduceSub, Nat.reduceMul, Nat.reduceLeDiff, Nat.reduceEqDiff, Nat.reduceBEq, reduceIte, reduceCtorEq, c_regencyref12_Right, List.length_map, hlp, hcat, b1, b2, t3, r2, Bool.false_and, Bool.true_and]
    simp (maxSteps := 2000000) -implicitDefEqProofs (disch := (refine id_ok ?_; first | assumption | omega | (simp only [go_sem, List.size_toArray, List.length_map, List.length_append, List.length_take, List.length_drop, List.length_cons, List.length_nil, mrLL_app, keyD_i, keyD_s, keyD_b, Nat.reduceAdd, Nat.reduceEqDiff, Nat.reduceLeDiff] <;> omega) | with_unfolding_all rfl | decide)) only [go_sem, Nat.reduceAdd, Nat.reduceSub, Nat.reduceMul, Nat.reduceLeDiff, Nat.reduceEqDiff, Nat.reduceBEq, reduceIte, reduceCtorEq, c_regencyref12_Right, List.length_map, hlp, hcat, b1, b2, t3, r2, t4, Bool.true_and]
  | false =>
    rw [Bool.false_or]
    cases y1
    · simp (maxSteps := 2000000) -implicitDefEqProofs (disch := (refine id_ok ?_; first | assumption | omega | (simp only [go_sem, List.size_toArray, List.length_map, List.length_append, List.length_take, List.length_drop, List.length_cons, List.length_nil, mrLL_app, keyD_i, keyD_s, keyD_b, Nat.reduceAdd, Nat.reduceEqDiff, Nat.reduceLeDiff] <;> omega) | with_unfolding_all rfl | decide)) only [go_sem, Nat.reduceAdd, Nat.reduceSub, Nat.reduceMul, Nat.reduceLeDiff, Nat.reduceEqDiff, Nat.reduceBEq, reduceIte, reduceCtorEq, c_regencyref12_Right, List.length_map, hlp, hcat, b1, r1, Bool.false_and]
    cases y2
    · simp (maxSteps := 2000000) -implicitDefEqProofs (disch := (refine id_ok ?_; first | assumption | omega | (simp only [go_sem, List.size_toArray, List.length_map, List.length_append, List.length_take, List.length_drop, List.length_cons, List.length_nil, mrLL_app, keyD_i, keyD_s, keyD_b, Nat.reduceAdd, Nat.reduceEqDiff, Nat.reduceLeDiff] <;> omega) | with_unfolding_all rfl | decide)) only [go_sem, Nat.reduceAdd, Nat.reduceSub, Nat.reduceMul, Nat.reduceLeDiff, Nat.reduceEqDiff, Nat.reduceBEq, reduceIte, reduceCtorEq, c_regencyref12_Right, List.length_map, hlp, hcat, b1, b2, r1, Bool.false_and, Bool.true_and]
    cases y3
    · simp (maxSteps := 2000000) -implicitDefEqProofs (disch := (refine id_ok ?_; first | assumption | omega | (simp only [go_sem, List.size_toArray, List.length_map, List.length_append, List.length_take, List.length_drop, List.length_cons, List.length_nil, mrLL_app, keyD_i, keyD_s, keyD_b, Nat.reduceAdd, Nat.reduceEqDiff, Nat.reduceLeDiff] <;> omega) | with_unfolding_all rfl | decide)) only [go_sem, Nat.reduceAdd, Nat.reduceSub, Nat.reduceMul, Nat.reduceLeDiff, Nat.reduceEqDiff, Nat.reduceBEq, reduceIte, reduceCtorEq, c_regencyref12_Right, List.length_map, hlp, hcat, b1, b2, t3, r1, Bool.false_and, Bool.true_and]
    cases y4
    · simp (maxSteps := 2000000) -implicitDefEqProofs (disch := (refine id_ok ?_; first | assumption | omega | (simp only [go_sem, List.size_toArray, List.length_map, List.length_append, List.length_take, List.length_drop, List.length_cons, List.length_nil, mrLL_app, keyD_i, keyD_s, keyD_b, Nat.reduceAdd, Nat.reduceEqDiff, Nat.reduceLeDiff] <;> omega) | with_unfolding_all rfl | decide)) only [go_sem, Nat.reduceAdd, Nat.reduceSub, Nat.reduceMul, Nat.reduceLeDiff, Nat.reduceEqDiff, Nat.reduceBEq, reduceIte, reduceCtorEq, c_regencyref12_Right, List.length_map, hlp, hcat, b1, b2, t3, r2, r1, Bool.false_and, Bool.true_and]
    cases y5
    · simp (maxSteps := 2000000) -implicitDefEqProofs (disch := (refine id_ok ?_; first | assumption | omega | (simp only [go_sem, List.size_toArray, List.length_map, List.length_append, List.length_take, List.length_drop, List.length_cons, List.length_nil, mrLL_app, keyD_i, keyD_s, keyD_b, Nat.reduceAdd, Nat.reduceEqDiff, Nat.reduceLeDiff] <;> omega) | with_unfolding_all rfl | decide)) only [go_sem, Nat.reduceAdd, Nat.reduceSub, Nat.reduceMul, Nat.reduceLeDiff, Nat.reduceEqDiff, Nat.reduceBEq, reduceIte, reduceCtorEq, c_regencyref12_Right, List.length_map, hlp, hcat, b1, b2, t3, r2, t4, r1, Bool.false_and, Bool.true_and]
    simp (maxSteps := 2000000) -implicitDefEqProofs (disch := (refine id_ok ?_; first | assumption | omega | (simp only [go_sem, List.size_toArray, List.length_map, List.length_append, List.length_take, List.length_drop, List.length_cons, List.length_nil, mrLL_app, keyD_i, keyD_s, keyD_b, Nat.reduceAdd, Nat.reduceEqDiff, Nat.reduceLeDiff] <;> omega) | with_unfolding_all rfl | decide)) only [go_sem, Nat.reduceAdd, Nat.reduceSub, Nat.reduceMul, Nat.reduceLeDiff, Nat.reduceEqDiff, Nat.reduceBEq, reduceIte, reduceCtorEq, c_regencyref12_Right, List.length_map, hlp, hcat, b1, b2, t3, r2, t4, r1, Bool.true_and]
end Go.Proofs.YtjeigcnaalleiaaGreatDoor.L
