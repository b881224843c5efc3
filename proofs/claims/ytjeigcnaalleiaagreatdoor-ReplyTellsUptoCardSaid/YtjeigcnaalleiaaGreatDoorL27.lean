/- Replies: which are right. -/
import Derived.Test.YtjeigcnaalleiaaGreatDoorL25
set_option linter.all false
set_option maxRecDepth 100000
namespace Go.Proofs.YtjeigcnaalleiaaGreatDoor.L
open Go.Proofs.YtjeigcnaalleiaaGreatDoor.M Go.Proofs.YtjeigcnaalleiaaGreatDoor.F Go.Proofs

abbrev Kd := Int × Int × Int
def encK (k : Kd) : List AV := [.int .i64 k.1, .int .i64 k.2.1, .int .i64 k.2.2]
theorem szOK_K {p : List Kd} : szOK 3 (p.map encK) = true := by cases p <;> rfl
theorem mrLL_K : ∀ {p : List Kd}, mrLL (p.map encK) = 0
  | [] => rfl
  | a :: p => by simp only [List.map_cons, mrLL, mrLL_K (p := p)]; rfl
theorem mrLL_B : ∀ {p : List UInt8}, mrLL (p.map encB) = 0
  | [] => rfl
  | a :: p => by simp only [List.map_cons, mrLL, mrLL_B (p := p)]; rfl
attribute [go_sem] szOK_K mrLL_K mrLL_B
/-- A reply. -/
structure Rep where
  e : Int
  n : Int
  text : List UInt8
  cat : List UInt8
  label : List Ent
  kids : List Kd
def encR (r : Rep) : List AV := [.int .i64 r.e, .int .i64 r.n, .sl .sh (r.text.map encB), .str ⟨r.cat.toArray⟩, .sl .sh (r.label.map encE), .sl .sh (r.kids.map encK)]
def bet (n a b : Int) : Bool := decide (a ≤ n) && decide (n ≤ b)
def rigK (prev : Option Int) : List Kd → Bool
  | [] => true
  | k :: r => bet k.1 0 1048576 && bet k.2.1 1 5 && bet k.2.2 0 1048576 && (match prev with | none => true | some p => decide (p < k.1)) && rigK (some k.1) r
def rigR (r : Rep) : Bool := rigK none r.kids && (r.cat == [] || rigC r.cat) && (bet r.e 0 99 && (bet r.n 0 1099511627776 && (decide (r.text.length ≤ 256) && (rigL r.label && decide (r.kids.length ≤ 16)))))
theorem bet_run {n a b : Int} {h : AH} : run T 52 [.int .i64 n, .int .i64 a, .int .i64 b] h = some (.bool (bet n a b), h) := by
  rw [run_code T_52]
  unfold bet
  by_cases h1 : a ≤ n
  · have e1 : decide (n ≥ a) = true := decide_eq_true h1
    have e1' : decide (a ≤ n) = true := decide_eq_true h1
    simp -implicitDefEqProofs (disch := (refine id_ok ?_; first | assumption | omega | (simp only [go_sem, List.size_toArray, List.length_map, List.length_append, List.length_take, List.length_drop, List.length_cons, List.length_nil, mrLL_app, keyD_i, keyD_s, keyD_b, Nat.reduceAdd, Nat.reduceEqDiff, Nat.reduceLeDiff] <;> omega) | with_unfolding_all rfl | decide)) only [go_sem, Nat.reduceAdd, Nat.reduceSub, Nat.reduceMul, Nat.reduceLeDiff, Nat.reduceEqDiff, Nat.reduceBEq, reduceIte, reduceCtorEq, c_reply_between, e1, e1', Bool.true_and]
  · have e1 : decide (n ≥ a) = false := decide_eq_false h1
    have e1' : decide (a ≤ n) = false := decide_eq_false h1
    simp -implicitDefEqProofs (disch := (refine id_ok ?_; first | assumption | omega | (simp only [go_sem, List.size_toArray, List.length_map, List.length_append, List.length_take, List.length_drop, List.length_cons, List.length_nil, mrLL_app, keyD_i, keyD_s, keyD_b, Nat.reduceAdd, Nat.reduceEqDiff, Nat.reduceLeDiff] <;> omega) | with_unfolding_all rfl | decide)) only [go_sem, Nat.reduceAdd, Nat.reduceSub, Nat.reduceMul, Nat.reduceLeDiff, Nat.reduceEqDiff, Nat.reduceBEq, reduceIte, reduceCtorEq, c_reply_between, e1]
    rfl
def prvK (l : List Kd) (i : Nat) : Option Int := if i = 0 then none else (l[i - 1]?).map (·.1)
def bxK (k : Kd) : Bx := .cells (encK k)
def HK (r : Rep) (i : Nat) : AH := .cells (encR r) :: (r.kids.take i).map bxK
set_option maxHeartbeats 4000000 in
theorem rigK_loop {r : Rep} (h8 : r.kids.length ≤ 1000000) : ∀ (d i : Nat), d + i = r.kids.length →
    (rigK (prvK r.kids i) (r.kids.drop i) = true ∧ den T (.loop l_reply_Right_0) (s_reply_Right_0 (.box 0 0) (.sl .sh (r.kids.map encK)) (.int .i64 r.kids.length) (.int .i64 i)) (HK r i) = some (.exit 0, x_reply_Right_0 (.box 0 0), HK r r.kids.length)) ∨
    ∃ σ h', den T (.loop l_reply_Right_0) (s_reply_Right_0 (.box 0 0) (.sl .sh (r.kids.map encK)) (.int .i64 r.kids.length) (.int .i64 i)) (HK r i) = some (.ret, σ, h') ∧ σ.getD 2 undefA = .bool false ∧ rigK (prvK r.kids i) (r.kids.drop i) = false := by
  intro d
  induction d with
  | zero =>
    intro i hd
    have hd' : decide ((i : Int) < r.kids.length) = false := decide_eq_false (by omega)
    refine .inl ⟨by rw [List.drop_eq_nil_of_le (by omega)]; rfl, ?_⟩
    rw [lp_round]
    simp -implicitDefEqProofs (disch := (refine id_ok ?_; first | assumption | omega | (simp only [go_sem, List.size_toArray, List.length_map, List.length_append, List.length_take, List.length_drop, List.length_cons, List.length_nil, mrLL_app, keyD_i, keyD_s, keyD_b, Nat.reduceAdd, Nat.reduceEqDiff, Nat.reduceLeDiff] <;> omega) | with_unfolding_all rfl | decide)) only [go_sem, Nat.reduceAdd, Nat.reduceSub, Nat.reduceMul, Nat.reduceLeDiff, Nat.reduceEqDiff, Nat.reduceBEq, reduceIte, reduceCtorEq, hd']
    rw [show i = r.kids.length by omega]
  | succ d ih =>
    intro i hd
    have hib : i < r.kids.length := by omega
    have hd' : decide ((i : Int) < r.kids.length) = true := decide_eq_true (by omega)
    have hge : (r.kids.map encK)[(i : Int).toNat]? = some (encK r.kids[i]) := by simp [hib]
    have hdr : r.kids.drop i = r.kids[i] :: r.kids.drop (i + 1) := List.drop_eq_getElem_cons hib
    have hH : HK r (i + 1) = HK r i ++ [.cells (encK r.kids[i])] := by unfold HK; rw [List.take_succ_eq_append_getElem hib, List.map_append]; rfl
    have hpr : prvK r.kids (i + 1) = some r.kids[i].1 := by simp [prvK, hib]
    have ih' := ih (i + 1) (by omega)
    rw [hpr, hH] at ih'
    have hprv : i ≠ 0 → ∃ p : Kd, (r.kids.map encK)[((i : Int) - 1).toNat]? = some (encK p) ∧ prvK r.kids i = some p.1 := by
      intro h0
      have hj : i - 1 < r.kids.length := by omega
      refine ⟨r.kids[i - 1], ?_, ?_⟩
      · rw [show ((i : Int) - 1).toNat = i - 1 by omega]; simp [hj]
      · simp [prvK, h0, hj]
    rw [hdr]
    generalize r.kids[i] = e at *
    obtain ⟨a, b, c⟩ := e
    have b1 := bet_run (n := a) (a := 0) (b := 1048576) (h := [])
    have b2 := bet_run (n := b) (a := 1) (b := 5) (h := [])
    have b3 := bet_run (n := c) (a := 0) (b := 1048576) (h := [])
    have g0 : ∀ x : Bx, (HK r i ++ [x])[0]? = some (.cells (encR r)) := fun x => rfl
    simp only [rigK]
    cases hc1 : bet a 0 1048576 with
    | false =>
      rw [hc1] at b1
      right
      rw [lp_round]
      simp -implicitDefEqProofs (disch := (refine id_ok ?_; first | assumption | omega | (simp only [go_sem, List.size_toArray, List.length_map, List.length_append, List.length_take, List.length_drop, List.length_cons, List.length_nil, mrLL_app, keyD_i, keyD_s, keyD_b, Nat.reduceAdd, Nat.reduceEqDiff, Nat.reduceLeDiff] <;> omega) | with_unfolding_all rfl | decide)) only [go_sem, Nat.reduceAdd, Nat.reduceSub, Nat.reduceMul, Nat.reduceLeDiff, Nat.reduceEqDiff, Nat.reduceBEq, reduceIte, reduceCtorEq, hd', hge, encK, b1]
      exact ⟨_, _, ⟨rfl, rfl⟩, rfl, rfl⟩
    | true =>
      rw [hc1] at b1
      cases hc2 : bet b 1 5 with
      | false =>
        rw [hc2] at b2
        right
        rw [lp_round]
        simp -implicitDefEqProofs (disch := (refine id_ok ?_; first | assumption | omega | (simp only [go_sem, List.size_toArray, List.length_map, List.length_append, List.length_take, List.length_drop, List.length_cons, List.length_nil, mrLL_app, keyD_i, keyD_s, keyD_b, Nat.reduceAdd, Nat.reduceEqDiff, Nat.reduceLeDiff] <;> omega) | with_unfolding_all rfl | decide)) only [go_sem, Nat.reduceAdd, Nat.reduceSub, Nat.reduceMul, Nat.reduceLeDiff, Nat.reduceEqDiff, Nat.reduceBEq, reduceIte, reduceCtorEq, hd', hge, encK, b1, b2]
        exact ⟨_, _, ⟨rfl, rfl⟩, rfl, rfl⟩
      | true =>
        rw [hc2] at b2
        cases hc3 : bet c 0 1048576 with
        | false =>
          rw [hc3] at b3
          right
          rw [lp_round]
          simp -implicitDefEqProofs (disch := (refine id_ok ?_; first | assumption | omega | (simp only [go_sem, List.size_toArray, List.length_map, List.length_append, List.length_take, List.length_drop, List.length_cons, List.length_nil, mrLL_app, keyD_i, keyD_s, keyD_b, Nat.reduceAdd, Nat.reduceEqDiff, Nat.reduceLeDiff] <;> omega) | with_unfolding_all rfl | decide)) only [go_sem, Nat.reduceAdd, Nat.reduceSub, Nat.reduceMul, Nat.reduceLeDiff, Nat.reduceEqDiff, Nat.reduceBEq, reduceIte, reduceCtorEq, hd', hge, encK, b1, b2, b3]
          exact ⟨_, _, ⟨rfl, rfl⟩, rfl, rfl⟩
        | true =>
          rw [hc3] at b3
          have e7 : IntKind.i64.wrap ((i : Int) + 1) = ((i + 1 : Nat) : Int) := by rw [w64 (by omega) (by omega)]; rfl
          simp only [Bool.true_and]
          by_cases h0 : i = 0
          · have e4 : decide ((i : Int) > 0) = false := decide_eq_false (by omega)
            have hp0 : prvK r.kids i = none := by simp [prvK, h0]
            rw [hp0]
            simp only [Bool.true_and]
            rw [lp_round]
            simp -implicitDefEqProofs (disch := (refine id_ok ?_; first | assumption | omega | (simp only [go_sem, List.size_toArray, List.length_map, List.length_append, List.length_take, List.length_drop, List.length_cons, List.length_nil, mrLL_app, keyD_i, keyD_s, keyD_b, Nat.reduceAdd, Nat.reduceEqDiff, Nat.reduceLeDiff] <;> omega) | with_unfolding_all rfl | decide)) only [go_sem, Nat.reduceAdd, Nat.reduceSub, Nat.reduceMul, Nat.reduceLeDiff, Nat.reduceEqDiff, Nat.reduceBEq, reduceIte, reduceCtorEq, hd', hge, encK, b1, b2, b3, e4, e7]
            exact ih'
          · have e4 : decide ((i : Int) > 0) = true := decide_eq_true (by omega)
            obtain ⟨q, hq1, hq2⟩ := hprv h0
            have e5 : IntKind.i64.wrap ((i : Int) - 1) = (i : Int) - 1 := w64 (by omega) (by omega)
            rw [hq2]
            simp only
            by_cases hcc : q.1 ≥ a
            · have e6 : decide (q.1 ≥ a) = true := decide_eq_true hcc
              have e6' : decide (q.1 < a) = false := decide_eq_false (by omega)
              right
              rw [lp_round]
              simp only [encK] at hq1
              simp (maxSteps := 2000000) -implicitDefEqProofs (disch := (refine id_ok ?_; first | assumption | omega | (simp only [go_sem, List.size_toArray, List.length_map, List.length_append, List.length_take, List.length_drop, List.length_cons, List.length_nil, mrLL_app, keyD_i, keyD_s, keyD_b, Nat.reduceAdd, Nat.reduceEqDiff, Nat.reduceLeDiff] <;> omega) | with_unfolding_all rfl | decide)) only [go_sem, Nat.reduceAdd, Nat.reduceSub, Nat.reduceMul, Nat.reduceLeDiff, Nat.reduceEqDiff, Nat.reduceBEq, reduceIte, reduceCtorEq, hd', hge, encK, b1, b2, b3, e4, e5, g0, encR, hq1, e6, e6']
              exact ⟨_, _, ⟨rfl, rfl⟩, rfl, rfl⟩
            · have e6 : decide (q.1 ≥ a) = false := decide_eq_false hcc
              have e6' : decide (q.1 < a) = true := decide_eq_true (by omega)
              simp only [e6', Bool.true_and]
              rw [lp_round]
              simp only [encK] at hq1
              simp (maxSteps := 2000000) -implicitDefEqProofs (disch := (refine id_ok ?_; first | assumption | omega | (simp only [go_sem, List.size_toArray, List.length_map, List.length_append, List.length_take, List.length_drop, List.length_cons, List.length_nil, mrLL_app, keyD_i, keyD_s, keyD_b, Nat.reduceAdd, Nat.reduceEqDiff, Nat.reduceLeDiff] <;> omega) | with_unfolding_all rfl | decide)) only [go_sem, Nat.reduceAdd, Nat.reduceSub, Nat.reduceMul, Nat.reduceLeDiff, Nat.reduceEqDiff, Nat.reduceBEq, reduceIte, reduceCtorEq, hd', hge, encK, b1, b2, b3, e4, e5, g0, encR, hq1, e6, e7]
              exact ih'
set_option maxHeartbeats 4000000 in
theorem rigR_run {r : Rep} (hk : r.kids.length ≤ 1000000) (hc : r.cat.length ≤ 281474976710656) (hl : ∀ e ∈ r.label, e.1.length ≤ 281474976710656) : run T 25 [.agg (encR r)] [] = some (.bool (rigR r), []) := by
  have hlp := rigK_loop hk r.kids.length 0 (by omega)
  simp only [List.drop_zero, show ((0 : Nat) : Int) = 0 from rfl, show HK r 0 = [.cells (encR r)] from rfl, show prvK r.kids 0 = none from rfl] at hlp
  have r1 := rigC_run (h := []) hc
  have r2 := rigL_run hl
  have b1 := bet_run (n := r.e) (a := 0) (b := 99) (h := [])
  have b2 := bet_run (n := r.n) (a := 0) (b := 1099511627776) (h := [])
  have g0 : (HK r r.kids.length)[0]? = some (.cells (encR r)) := rfl
  rw [run_code T_25]
  unfold rigR
  rcases hlp with ⟨h1, h2⟩ | ⟨σ, h', h1, h2, h3⟩
  · rw [h1, Bool.true_and]
    simp only [encR] at h2 g0
    have t1 : ∀ k : Nat, decide ((r.text.length : Int) ≤ k) = decide (r.text.length ≤ k) := fun k => by simp
    have t2 : ∀ k : Nat, decide ((r.kids.length : Int) ≤ k) = decide (r.kids.length ≤ k) := fun k => by simp
    have t3 := t1 256
    have t4 := t2 16
    rw [show ((256 : Nat) : Int) = 256 from rfl] at t3
    rw [show ((16 : Nat) : Int) = 16 from rfl] at t4
    clear t1 t2
    cases hcat : (r.cat == []) with
    | false =>
      cases hrc : rigC r.cat with
      | false =>
        rw [hrc] at r1
        simp -implicitDefEqProofs (disch := (refine id_ok ?_; first | assumption | omega | (simp only [go_sem, List.size_toArray, List.length_map, List.length_append, List.length_take, List.length_drop, List.length_cons, List.length_nil, mrLL_app, keyD_i, keyD_s, keyD_b, Nat.reduceAdd, Nat.reduceEqDiff, Nat.reduceLeDiff] <;> omega) | with_unfolding_all rfl | decide)) only [go_sem, Nat.reduceAdd, Nat.reduceSub, Nat.reduceMul, Nat.reduceLeDiff, Nat.reduceEqDiff, Nat.reduceBEq, reduceIte, reduceCtorEq, c_reply_Right, encR, List.length_map, h2, g0, hcat, r1]
        rfl
      | true =>
        rw [hrc] at r1
        generalize decide (r.kids.length ≤ 16) = y5 at *
        generalize decide (r.text.length ≤ 256) = y3 at *
        generalize rigL r.label = y4 at *
        generalize bet r.e 0 99 = y1 at *
        generalize bet r.n 0 1099511627776 = y2 at *
        cases y1
        · simp (maxSteps := 2000000) -implicitDefEqProofs (disch := (refine id_ok ?_; first | assumption | omega | (simp only [go_sem, List.size_toArray, List.length_map, List.length_append, List.length_take, List.length_drop, List.length_cons, List.length_nil, mrLL_app, keyD_i, keyD_s, keyD_b, Nat.reduceAdd, Nat.reduceEqDiff, Nat.reduceLeDiff] <;> omega) | with_unfolding_all rfl | decide)) only [go_sem, Nat.reduceAdd, Nat.reduceSub, Nat.reduceMul, Nat.reduceLeDiff, Nat.reduceEqDiff, Nat.reduceBEq, reduceIte, reduceCtorEq, c_reply_Right, encR, List.length_map, h2, g0, hcat, r1, r2, b1, b2, t3, t4, Bool.false_or, Bool.true_and, Bool.false_and]
        cases y2
        · simp (maxSteps := 2000000) -implicitDefEqProofs (disch := (refine id_ok ?_; first | assumption | omega | (simp only [go_sem, List.size_toArray, List.length_map, List.length_append, List.length_take, List.length_drop, List.length_cons, List.length_nil, mrLL_app, keyD_i, keyD_s, keyD_b, Nat.reduceAdd, Nat.reduceEqDiff, Nat.reduceLeDiff] <;> omega) | with_unfolding_all rfl | decide)) only [go_sem, Nat.reduceAdd, Nat.reduceSub, Nat.reduceMul, Nat.reduceLeDiff, Nat.reduceEqDiff, Nat.reduceBEq, reduceIte, reduceCtorEq, c_reply_Right, encR, List.length_map, h2, g0, hcat, r1, r2, b1, b2, t3, t4, Bool.false_or, Bool.true_and, Bool.false_and]
        cases y3
        · simp (maxSteps := 2000000) -implicitDefEqProofs (disch := (refine id_ok ?_; first | assumption | omega | (simp only [go_sem, List.size_toArray, List.length_map, List.length_append, List.length_take, List.length_drop, List.length_cons, List.length_nil, mrLL_app, keyD_i, keyD_s, keyD_b, Nat.reduceAdd, Nat.reduceEqDiff, Nat.reduceLeDiff] <;> omega) | with_unfolding_all rfl | decide)) only [go_sem, Nat.reduceAdd, Nat.reduceSub, Nat.reduceMul, Nat.reduceLeDiff, Nat.reduceEqDiff, Nat.reduceBEq, reduceIte, reduceCtorEq, c_reply_Right, encR, List.length_map, h2, g0, hcat, r1, r2, b1, b2, t3, t4, Bool.false_or, Bool.true_and, Bool.false_and]
        cases y4 <;> simp (maxSteps := 2000000) -implicitDefEqProofs (disch := (refine id_ok ?_; first | assumption | omega | (simp only [go_sem, List.size_toArray, List.length_map, List.length_append, List.length_take, List.length_drop, List.length_cons, List.length_nil, mrLL_app, keyD_i, keyD_s, keyD_b, Nat.reduceAdd, Nat.reduceEqDiff, Nat.reduceLeDiff] <;> omega) | with_unfolding_all rfl | decide)) only [go_sem, Nat.reduceAdd, Nat.reduceSub, Nat.reduceMul, Nat.reduceLeDiff, Nat.reduceEqDiff, Nat.reduceBEq, reduceIte, reduceCtorEq, c_reply_Right, encR, List.length_map, h2, g0, hcat, r1, r2, b1, b2, t3, t4, Bool.false_or, Bool.true_and, Bool.false_and]
    | true =>
      generalize decide (r.kids.length ≤ 16) = y5 at *
      generalize decide (r.text.length ≤ 256) = y3 at *
      generalize rigL r.label = y4 at *
      generalize bet r.e 0 99 = y1 at *
      generalize bet r.n 0 1099511627776 = y2 at *
      cases y1
      · simp (maxSteps := 2000000) -implicitDefEqProofs (disch := (refine id_ok ?_; first | assumption | omega | (simp only [go_sem, List.size_toArray, List.length_map, List.length_append, List.length_take, List.length_drop, List.length_cons, List.length_nil, mrLL_app, keyD_i, keyD_s, keyD_b, Nat.reduceAdd, Nat.reduceEqDiff, Nat.reduceLeDiff] <;> omega) | with_unfolding_all rfl | decide)) only [go_sem, Nat.reduceAdd, Nat.reduceSub, Nat.reduceMul, Nat.reduceLeDiff, Nat.reduceEqDiff, Nat.reduceBEq, reduceIte, reduceCtorEq, c_reply_Right, encR, List.length_map, h2, g0, hcat, r2, b1, b2, t3, t4, Bool.true_or, Bool.true_and, Bool.false_and]
      cases y2
      · simp (maxSteps := 2000000) -implicitDefEqProofs (disch := (refine id_ok ?_; first | assumption | omega | (simp only [go_sem, List.size_toArray, List.length_map, List.length_append, List.length_take, List.length_drop, List.length_cons, List.length_nil, mrLL_app, keyD_i, keyD_s, keyD_b, Nat.reduceAdd, Nat.reduceEqDiff, Nat.reduceLeDiff] <;> omega) | with_unfolding_all rfl | decide)) only [go_sem, Nat.reduceAdd, Nat.reduceSub, Nat.reduceMul, Nat.reduceLeDiff, Nat.reduceEqDiff, Nat.reduceBEq, reduceIte, reduceCtorEq, c_reply_Right, encR, List.length_map, h2, g0, hcat, r2, b1, b2, t3, t4, Bool.true_or, Bool.true_and, Bool.false_and]
      cases y3
      · simp (maxSteps := 2000000) -implicitDefEqProofs (disch := (refine id_ok ?_; first | assumption | omega | (simp only [go_sem, List.size_toArray, List.length_map, List.length_append, List.length_take, List.length_drop, List.length_cons, List.length_nil, mrLL_app, keyD_i, keyD_s, keyD_b, Nat.reduceAdd, Nat.reduceEqDiff, Nat.reduceLeDiff] <;> omega) | with_unfolding_all rfl | decide)) only [go_sem, Nat.reduceAdd, Nat.reduceSub, Nat.reduceMul, Nat.reduceLeDiff, Nat.reduceEqDiff, Nat.reduceBEq, reduceIte, reduceCtorEq, c_reply_Right, encR, List.length_map, h2, g0, hcat, r2, b1, b2, t3, t4, Bool.true_or, Bool.true_and, Bool.false_and]
      cases y4 <;> simp (maxSteps := 2000000) -implicitDefEqProofs (disch := (refine id_ok ?_; first | assumption | omega | (simp only [go_sem, List.size_toArray, List.length_map, List.length_append, List.length_take, List.length_drop, List.length_cons, List.length_nil, mrLL_app, keyD_i, keyD_s, keyD_b, Nat.reduceAdd, Nat.reduceEqDiff, Nat.reduceLeDiff] <;> omega) | with_unfolding_all rfl | decide)) only [go_sem, Nat.reduceAdd, Nat.reduceSub, Nat.reduceMul, Nat.reduceLeDiff, Nat.reduceEqDiff, Nat.reduceBEq, reduceIte, reduceCtorEq, c_reply_Right, encR, List.length_map, h2, g0, hcat, r2, b1, b2, t3, t4, Bool.true_or, Bool.true_and, Bool.false_and]
  · rw [h3]
    simp only [encR] at h1
    simp -implicitDefEqProofs (disch := (refine id_ok ?_; first | assumption | omega | (simp only [go_sem, List.size_toArray, List.length_map, List.length_append, List.length_take, List.length_drop, List.length_cons, List.length_nil, mrLL_app, keyD_i, keyD_s, keyD_b, Nat.reduceAdd, Nat.reduceEqDiff, Nat.reduceLeDiff] <;> omega) | with_unfolding_all rfl | decide)) only [go_sem, Nat.reduceAdd, Nat.reduceSub, Nat.reduceMul, Nat.reduceLeDiff, Nat.reduceEqDiff, Nat.reduceBEq, reduceIte, reduceCtorEq, c_reply_Right, encR, List.length_map, h1, h2]
    rfl
end Go.Proofs.YtjeigcnaalleiaaGreatDoor.L
