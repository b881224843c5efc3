/- Replies compared, the program's way; a law's guard; reading a reply's numbers. -/
import Derived.Test.YtjeigcnaalleiaaGreatDoorL39
set_option linter.all false
set_option maxRecDepth 100000
namespace Go.Proofs.YtjeigcnaalleiaaGreatDoor.L
open Go.Proofs.YtjeigcnaalleiaaGreatDoor.M Go.Proofs.YtjeigcnaalleiaaGreatDoor.F Go.Proofs

theorem ba_dec (a b : List UInt8) : ((⟨a.toArray⟩ : ByteArray) == ⟨b.toArray⟩) = decide (a = b) := by
  have h : ((⟨a.toArray⟩ : ByteArray) == ⟨b.toArray⟩) = (a.toArray == b.toArray) := rfl
  rw [h]
  by_cases h : a = b
  · subst h; simp
  · simp [h]
theorem bl_dec (a b : List UInt8) : ((⟨a.toArray⟩ : ByteArray).toList == (⟨b.toArray⟩ : ByteArray).toList) = decide (a = b) := by
  rw [toList_mk, toList_mk]
  by_cases h : a = b
  · subst h; simp
  · simp [h]
theorem lb_dec {α : Type} [DecidableEq α] (x y : α) : (x == y) = decide (x = y) := by by_cases h : x = y <;> simp [h]
theorem lbU (x y : List UInt8) : (x == y) = decide (x = y) := by by_cases h : x = y <;> simp [h]
theorem incN {n : Nat} (h : n ≤ 9223372036854775806) : IntKind.i64.wrap ((n : Int) + 1) = ((n + 1 : Nat) : Int) := by rw [w64 (by omega) (by omega)]; rfl
theorem eqE_dec (a b : Ent) : eqI (encE a) (encE b) [(0, .string), (1, .int .i64)] = some (decide (a = b)) := by
  obtain ⟨a1, a2⟩ := a
  obtain ⟨b1, b2⟩ := b
  show (match (some ((⟨a1.toArray⟩ : ByteArray) == ⟨b1.toArray⟩) : Option Bool) with | some true => (match (some (a2 == b2) : Option Bool) with | some true => some true | some false => some false | none => none) | some false => some false | none => none) = _
  rw [ba_dec, lb_dec]
  by_cases h1 : a1 = b1 <;> by_cases h2 : a2 = b2 <;> simp [h1, h2]
theorem eqK_dec (a b : Kd) : eqI (encK a) (encK b) [(0, .int .i64), (1, .int .i64), (2, .int .i64)] = some (decide (a = b)) := by
  obtain ⟨a1, a2, a3⟩ := a
  obtain ⟨b1, b2, b3⟩ := b
  show (match (some (a1 == b1) : Option Bool) with | some true => (match (some (a2 == b2) : Option Bool) with | some true => (match (some (a3 == b3) : Option Bool) with | some true => some true | some false => some false | none => none) | some false => some false | none => none) | some false => some false | none => none) = _
  rw [lb_dec, lb_dec, lb_dec]
  by_cases h1 : a1 = b1 <;> by_cases h2 : a2 = b2 <;> by_cases h3 : a3 = b3 <;> simp [h1, h2, h3]
theorem drop_dec {α : Type} [DecidableEq α] {a b : List α} {i : Nat} (ha : i < a.length) (hb : i < b.length) : decide (a.drop i = b.drop i) = (decide (a[i] = b[i]) && decide (a.drop (i + 1) = b.drop (i + 1))) := by
  have h : (a.drop i = b.drop i) ↔ (a[i] = b[i] ∧ a.drop (i + 1) = b.drop (i + 1)) := by
    rw [List.drop_eq_getElem_cons ha, List.drop_eq_getElem_cons hb, List.cons.injEq]
  rw [decide_eq_decide.2 h, Bool.decide_and]
theorem beq_run {a b : List UInt8} {h : AH} : run T 64 [.sl .sh (a.map encB), .sl .sh (b.map encB)] h = some (.bool (decide (a = b)), h) := by
  rw [run_code T_64]
  simp -implicitDefEqProofs (disch := (refine id_ok ?_; first | assumption | omega | (simp only [go_sem, List.size_toArray, List.length_map, List.length_append, List.length_take, List.length_drop, List.length_cons, List.length_nil, mrLL_app, keyD_i, keyD_s, keyD_b, Nat.reduceAdd, Nat.reduceEqDiff, Nat.reduceLeDiff] <;> omega) | with_unfolding_all rfl | decide)) only [go_sem, Nat.reduceAdd, Nat.reduceSub, Nat.reduceMul, Nat.reduceLeDiff, Nat.reduceEqDiff, Nat.reduceBEq, reduceIte, reduceCtorEq, c_bytes_Equal, lbU a b]
theorem eqKs_loop {a b : List Kd} {h : AH} (hl : a.length = b.length) (hs : a.length ≤ 1000000000) : ∀ (d i : Nat), d + i = a.length →
    (decide (a.drop i = b.drop i) = true ∧ den T (.loop l_slices_Equal_api_Kid_api_Kid_0) (s_slices_Equal_api_Kid_api_Kid_0 (.sl .sh (a.map encK)) (.sl .sh (b.map encK)) (.int .i64 a.length) (.int .i64 i)) h = some (.exit 0, x_slices_Equal_api_Kid_api_Kid_0, h)) ∨
    (decide (a.drop i = b.drop i) = false ∧ ∃ σ, den T (.loop l_slices_Equal_api_Kid_api_Kid_0) (s_slices_Equal_api_Kid_api_Kid_0 (.sl .sh (a.map encK)) (.sl .sh (b.map encK)) (.int .i64 a.length) (.int .i64 i)) h = some (.ret, σ, h) ∧ σ.getD 4 undefA = .bool false) := by
  intro d
  induction d with
  | zero =>
    intro i hd
    have hd' : decide ((i : Int) < a.length) = false := decide_eq_false (by omega)
    refine .inl ⟨by rw [List.drop_eq_nil_of_le (by omega), List.drop_eq_nil_of_le (by omega)]; rfl, ?_⟩
    rw [lp_round]
    simp -implicitDefEqProofs (disch := (refine id_ok ?_; first | assumption | omega | (simp only [go_sem, List.size_toArray, List.length_map, List.length_append, List.length_take, List.length_drop, List.length_cons, List.length_nil, mrLL_app, keyD_i, keyD_s, keyD_b, Nat.reduceAdd, Nat.reduceEqDiff, Nat.reduceLeDiff] <;> omega) | with_unfolding_all rfl | decide)) only [go_sem, Nat.reduceAdd, Nat.reduceSub, Nat.reduceMul, Nat.reduceLeDiff, Nat.reduceEqDiff, Nat.reduceBEq, reduceIte, reduceCtorEq, hd']
  | succ d ih =>
    intro i hd
    have hia : i < a.length := by omega
    have hib : i < b.length := by omega
    have hd' : decide ((i : Int) < a.length) = true := decide_eq_true (by omega)
    have ga : (a.map encK)[(i : Int).toNat]? = some (encK a[i]) := by simp [hia]
    have gb : (b.map encK)[(i : Int).toNat]? = some (encK b[i]) := by simp [hib]
    have e7 := incN (n := i) (by omega)
    have ih' := ih (i + 1) (by omega)
    have hq := eqK_dec a[i] b[i]
    have hdr := drop_dec hia hib
    generalize a[i] = x at *
    generalize b[i] = y at *
    rw [hdr]
    by_cases hxy : x = y
    · have hx : decide (x = y) = true := decide_eq_true hxy
      rw [hx] at hq
      have hstep : den T (.loop l_slices_Equal_api_Kid_api_Kid_0) (s_slices_Equal_api_Kid_api_Kid_0 (.sl .sh (a.map encK)) (.sl .sh (b.map encK)) (.int .i64 a.length) (.int .i64 i)) h = den T (.loop l_slices_Equal_api_Kid_api_Kid_0) (s_slices_Equal_api_Kid_api_Kid_0 (.sl .sh (a.map encK)) (.sl .sh (b.map encK)) (.int .i64 a.length) (.int .i64 (i + 1 : Nat))) h := by
        simp only [encK] at ga gb hq
        rw [lp_round]
        simp (maxSteps := 2000000) -implicitDefEqProofs (disch := (refine id_ok ?_; first | assumption | omega | (simp only [go_sem, List.size_toArray, List.length_map, List.length_append, List.length_take, List.length_drop, List.length_cons, List.length_nil, mrLL_app, keyD_i, keyD_s, keyD_b, Nat.reduceAdd, Nat.reduceEqDiff, Nat.reduceLeDiff] <;> omega) | with_unfolding_all rfl | decide)) only [go_sem, Nat.reduceAdd, Nat.reduceSub, Nat.reduceMul, Nat.reduceLeDiff, Nat.reduceEqDiff, Nat.reduceBEq, reduceIte, reduceCtorEq, hd', ga, gb, hq, e7]
        try rfl
      rw [hstep, hx, Bool.true_and]
      exact ih'
    · have hx : decide (x = y) = false := decide_eq_false hxy
      rw [hx] at hq
      refine .inr ⟨by rw [hx, Bool.false_and], ?_⟩
      simp only [encK] at ga gb hq
      rw [lp_round]
      simp (maxSteps := 2000000) -implicitDefEqProofs (disch := (refine id_ok ?_; first | assumption | omega | (simp only [go_sem, List.size_toArray, List.length_map, List.length_append, List.length_take, List.length_drop, List.length_cons, List.length_nil, mrLL_app, keyD_i, keyD_s, keyD_b, Nat.reduceAdd, Nat.reduceEqDiff, Nat.reduceLeDiff] <;> omega) | with_unfolding_all rfl | decide)) only [go_sem, Nat.reduceAdd, Nat.reduceSub, Nat.reduceMul, Nat.reduceLeDiff, Nat.reduceEqDiff, Nat.reduceBEq, reduceIte, reduceCtorEq, hd', ga, gb, hq]
      exact ⟨_, rfl, rfl⟩
theorem eqKs_run {a b : List Kd} {h : AH} (ha : a.length ≤ 1000000000) : run T 66 [.sl .sh (a.map encK), .sl .sh (b.map encK)] h = some (.bool (decide (a = b)), h) := by
  rw [run_code T_66]
  by_cases hl : a.length = b.length
  · have hq : ((a.length : Int) != (b.length : Int)) = false := by simp [hl]
    rcases eqKs_loop (h := h) hl ha a.length 0 (by omega) with ⟨h1, h2⟩ | ⟨h1, σ, h2, h3⟩
    · simp only [show ((0 : Nat) : Int) = 0 from rfl, List.drop_zero] at h1 h2
      simp (maxSteps := 2000000) -implicitDefEqProofs (disch := (refine id_ok ?_; first | assumption | omega | (simp only [go_sem, List.size_toArray, List.length_map, List.length_append, List.length_take, List.length_drop, List.length_cons, List.length_nil, mrLL_app, keyD_i, keyD_s, keyD_b, Nat.reduceAdd, Nat.reduceEqDiff, Nat.reduceLeDiff] <;> omega) | with_unfolding_all rfl | decide)) only [go_sem, Nat.reduceAdd, Nat.reduceSub, Nat.reduceMul, Nat.reduceLeDiff, Nat.reduceEqDiff, Nat.reduceBEq, reduceIte, reduceCtorEq, c_slices_Equal_api_Kid_api_Kid, List.length_map, hq, h2, h1]
    · simp only [show ((0 : Nat) : Int) = 0 from rfl, List.drop_zero] at h1 h2
      simp (maxSteps := 2000000) -implicitDefEqProofs (disch := (refine id_ok ?_; first | assumption | omega | (simp only [go_sem, List.size_toArray, List.length_map, List.length_append, List.length_take, List.length_drop, List.length_cons, List.length_nil, mrLL_app, keyD_i, keyD_s, keyD_b, Nat.reduceAdd, Nat.reduceEqDiff, Nat.reduceLeDiff] <;> omega) | with_unfolding_all rfl | decide)) only [go_sem, Nat.reduceAdd, Nat.reduceSub, Nat.reduceMul, Nat.reduceLeDiff, Nat.reduceEqDiff, Nat.reduceBEq, reduceIte, reduceCtorEq, c_slices_Equal_api_Kid_api_Kid, List.length_map, hq, h2, h1, h3]
  · have hq : ((a.length : Int) != (b.length : Int)) = true := by simp; omega
    have hne : decide (a = b) = false := decide_eq_false fun e => hl (by rw [e])
    simp (maxSteps := 2000000) -implicitDefEqProofs (disch := (refine id_ok ?_; first | assumption | omega | (simp only [go_sem, List.size_toArray, List.length_map, List.length_append, List.length_take, List.length_drop, List.length_cons, List.length_nil, mrLL_app, keyD_i, keyD_s, keyD_b, Nat.reduceAdd, Nat.reduceEqDiff, Nat.reduceLeDiff] <;> omega) | with_unfolding_all rfl | decide)) only [go_sem, Nat.reduceAdd, Nat.reduceSub, Nat.reduceMul, Nat.reduceLeDiff, Nat.reduceEqDiff, Nat.reduceBEq, reduceIte, reduceCtorEq, c_slices_Equal_api_Kid_api_Kid, List.length_map, hq, hne]
theorem eqEs_loop {a b : List Ent} {h : AH} (hl : a.length = b.length) (hs : a.length ≤ 1000000000) : ∀ (d i : Nat), d + i = a.length →
    (decide (a.drop i = b.drop i) = true ∧ den T (.loop l_slices_Equal_api_Label_api_Entry_0) (s_slices_Equal_api_Label_api_Entry_0 (.sl .sh (a.map encE)) (.sl .sh (b.map encE)) (.int .i64 a.length) (.int .i64 i)) h = some (.exit 0, x_slices_Equal_api_Label_api_Entry_0, h)) ∨
    (decide (a.drop i = b.drop i) = false ∧ ∃ σ, den T (.loop l_slices_Equal_api_Label_api_Entry_0) (s_slices_Equal_api_Label_api_Entry_0 (.sl .sh (a.map encE)) (.sl .sh (b.map encE)) (.int .i64 a.length) (.int .i64 i)) h = some (.ret, σ, h) ∧ σ.getD 4 undefA = .bool false) := by
  intro d
  induction d with
  | zero =>
    intro i hd
    have hd' : decide ((i : Int) < a.length) = false := decide_eq_false (by omega)
    refine .inl ⟨by rw [List.drop_eq_nil_of_le (by omega), List.drop_eq_nil_of_le (by omega)]; rfl, ?_⟩
    rw [lp_round]
    simp -implicitDefEqProofs (disch := (refine id_ok ?_; first | assumption | omega | (simp only [go_sem, List.size_toArray, List.length_map, List.length_append, List.length_take, List.length_drop, List.length_cons, List.length_nil, mrLL_app, keyD_i, keyD_s, keyD_b, Nat.reduceAdd, Nat.reduceEqDiff, Nat.reduceLeDiff] <;> omega) | with_unfolding_all rfl | decide)) only [go_sem, Nat.reduceAdd, Nat.reduceSub, Nat.reduceMul, Nat.reduceLeDiff, Nat.reduceEqDiff, Nat.reduceBEq, reduceIte, reduceCtorEq, hd']
  | succ d ih =>
    intro i hd
    have hia : i < a.length := by omega
    have hib : i < b.length := by omega
    have hd' : decide ((i : Int) < a.length) = true := decide_eq_true (by omega)
    have ga : (a.map encE)[(i : Int).toNat]? = some (encE a[i]) := by simp [hia]
    have gb : (b.map encE)[(i : Int).toNat]? = some (encE b[i]) := by simp [hib]
    have e7 := incN (n := i) (by omega)
    have ih' := ih (i + 1) (by omega)
    have hq := eqE_dec a[i] b[i]
    have hdr := drop_dec hia hib
    generalize a[i] = x at *
    generalize b[i] = y at *
    rw [hdr]
    by_cases hxy : x = y
    · have hx : decide (x = y) = true := decide_eq_true hxy
      rw [hx] at hq
      have hstep : den T (.loop l_slices_Equal_api_Label_api_Entry_0) (s_slices_Equal_api_Label_api_Entry_0 (.sl .sh (a.map encE)) (.sl .sh (b.map encE)) (.int .i64 a.length) (.int .i64 i)) h = den T (.loop l_slices_Equal_api_Label_api_Entry_0) (s_slices_Equal_api_Label_api_Entry_0 (.sl .sh (a.map encE)) (.sl .sh (b.map encE)) (.int .i64 a.length) (.int .i64 (i + 1 : Nat))) h := by
        simp only [encE] at ga gb hq
        rw [lp_round]
        simp (maxSteps := 2000000) -implicitDefEqProofs (disch := (refine id_ok ?_; first | assumption | omega | (simp only [go_sem, List.size_toArray, List.length_map, List.length_append, List.length_take, List.length_drop, List.length_cons, List.length_nil, mrLL_app, keyD_i, keyD_s, keyD_b, Nat.reduceAdd, Nat.reduceEqDiff, Nat.reduceLeDiff] <;> omega) | with_unfolding_all rfl | decide)) only [go_sem, Nat.reduceAdd, Nat.reduceSub, Nat.reduceMul, Nat.reduceLeDiff, Nat.reduceEqDiff, Nat.reduceBEq, reduceIte, reduceCtorEq, hd', ga, gb, hq, e7]
        try rfl
      rw [hstep, hx, Bool.true_and]
      exact ih'
    · have hx : decide (x = y) = false := decide_eq_false hxy
      rw [hx] at hq
      refine .inr ⟨by rw [hx, Bool.false_and], ?_⟩
      simp only [encE] at ga gb hq
      rw [lp_round]
      simp (maxSteps := 2000000) -implicitDefEqProofs (disch := (refine id_ok ?_; first | assumption | omega | (simp only [go_sem, List.size_toArray, List.length_map, List.length_append, List.length_take, List.length_drop, List.length_cons, List.length_nil, mrLL_app, keyD_i, keyD_s, keyD_b, Nat.reduceAdd, Nat.reduceEqDiff, Nat.reduceLeDiff] <;> omega) | with_unfolding_all rfl | decide)) only [go_sem, Nat.reduceAdd, Nat.reduceSub, Nat.reduceMul, Nat.reduceLeDiff, Nat.reduceEqDiff, Nat.reduceBEq, reduceIte, reduceCtorEq, hd', ga, gb, hq]
      exact ⟨_, rfl, rfl⟩
theorem eqEs_run {a b : List Ent} {h : AH} (ha : a.length ≤ 1000000000) : run T 88 [.sl .sh (a.map encE), .sl .sh (b.map encE)] h = some (.bool (decide (a = b)), h) := by
  rw [run_code T_88]
  by_cases hl : a.length = b.length
  · have hq : ((a.length : Int) != (b.length : Int)) = false := by simp [hl]
    rcases eqEs_loop (h := h) hl ha a.length 0 (by omega) with ⟨h1, h2⟩ | ⟨h1, σ, h2, h3⟩
    · simp only [show ((0 : Nat) : Int) = 0 from rfl, List.drop_zero] at h1 h2
      simp (maxSteps := 2000000) -implicitDefEqProofs (disch := (refine id_ok ?_; first | assumption | omega | (simp only [go_sem, List.size_toArray, List.length_map, List.length_append, List.length_take, List.length_drop, List.length_cons, List.length_nil, mrLL_app, keyD_i, keyD_s, keyD_b, Nat.reduceAdd, Nat.reduceEqDiff, Nat.reduceLeDiff] <;> omega) | with_unfolding_all rfl | decide)) only [go_sem, Nat.reduceAdd, Nat.reduceSub, Nat.reduceMul, Nat.reduceLeDiff, Nat.reduceEqDiff, Nat.reduceBEq, reduceIte, reduceCtorEq, c_slices_Equal_api_Label_api_Entry, List.length_map, hq, h2, h1]
    · simp only [show ((0 : Nat) : Int) = 0 from rfl, List.drop_zero] at h1 h2
      simp (maxSteps := 2000000) -implicitDefEqProofs (disch := (refine id_ok ?_; first | assumption | omega | (simp only [go_sem, List.size_toArray, List.length_map, List.length_append, List.length_take, List.length_drop, List.length_cons, List.length_nil, mrLL_app, keyD_i, keyD_s, keyD_b, Nat.reduceAdd, Nat.reduceEqDiff, Nat.reduceLeDiff] <;> omega) | with_unfolding_all rfl | decide)) only [go_sem, Nat.reduceAdd, Nat.reduceSub, Nat.reduceMul, Nat.reduceLeDiff, Nat.reduceEqDiff, Nat.reduceBEq, reduceIte, reduceCtorEq, c_slices_Equal_api_Label_api_Entry, List.length_map, hq, h2, h1, h3]
  · have hq : ((a.length : Int) != (b.length : Int)) = true := by simp; omega
    have hne : decide (a = b) = false := decide_eq_false fun e => hl (by rw [e])
    simp (maxSteps := 2000000) -implicitDefEqProofs (disch := (refine id_ok ?_; first | assumption | omega | (simp only [go_sem, List.size_toArray, List.length_map, List.length_append, List.length_take, List.length_drop, List.length_cons, List.length_nil, mrLL_app, keyD_i, keyD_s, keyD_b, Nat.reduceAdd, Nat.reduceEqDiff, Nat.reduceLeDiff] <;> omega) | with_unfolding_all rfl | decide)) only [go_sem, Nat.reduceAdd, Nat.reduceSub, Nat.reduceMul, Nat.reduceLeDiff, Nat.reduceEqDiff, Nat.reduceBEq, reduceIte, reduceCtorEq, c_slices_Equal_api_Label_api_Entry, List.length_map, hq, hne]
theorem lsame_run {a b : List Ent} {h : AH} (ha : a.length ≤ 1000000000) : run T 65 [.sl .sh (a.map encE), .sl .sh (b.map encE)] h = some (.bool (decide (a = b)), h) := by
  have h1 := fun h => eqEs_run (b := b) (h := h) ha
  rw [run_code T_65]
  simp -implicitDefEqProofs (disch := (refine id_ok ?_; first | assumption | omega | (simp only [go_sem, List.size_toArray, List.length_map, List.length_append, List.length_take, List.length_drop, List.length_cons, List.length_nil, mrLL_app, keyD_i, keyD_s, keyD_b, Nat.reduceAdd, Nat.reduceEqDiff, Nat.reduceLeDiff] <;> omega) | with_unfolding_all rfl | decide)) only [go_sem, Nat.reduceAdd, Nat.reduceSub, Nat.reduceMul, Nat.reduceLeDiff, Nat.reduceEqDiff, Nat.reduceBEq, reduceIte, reduceCtorEq, c_label_Same, h1]
def samR (a b : Rep) : Bool := a.e == b.e && (a.n == b.n && (decide (a.text = b.text) && (decide (a.cat = b.cat) && (decide (a.label = b.label) && decide (a.kids = b.kids)))))
set_option maxHeartbeats 4000000 in
theorem samR_run {a b : Rep} {h : AH} (ha : a.label.length ≤ 1000000000) (hk : a.kids.length ≤ 1000000000) : run T 29 [.agg (encR a), .agg (encR b)] [] = some (.bool (samR a b), []) := by
  have h1 := fun h => beq_run (a := a.text) (b := b.text) (h := h)
  have h2 := fun h => lsame_run (b := b.label) (h := h) ha
  have h3 := fun h => eqKs_run (b := b.kids) (h := h) hk
  have h4 := lbU a.cat b.cat
  have hs : samR a b = (a.e == b.e && (a.n == b.n && (decide (a.text = b.text) && (decide (a.cat = b.cat) && (decide (a.label = b.label) && decide (a.kids = b.kids)))))) := rfl
  rw [run_code T_29, hs]
  generalize decide (a.text = b.text) = c3 at *
  generalize decide (a.cat = b.cat) = c4 at *
  generalize decide (a.label = b.label) = c5 at *
  generalize decide (a.kids = b.kids) = c6 at *
  cases c1 : a.e == b.e
  · simp (maxSteps := 2000000) -implicitDefEqProofs (disch := (refine id_ok ?_; first | assumption | omega | (simp only [go_sem, List.size_toArray, List.length_map, List.length_append, List.length_take, List.length_drop, List.length_cons, List.length_nil, mrLL_app, keyD_i, keyD_s, keyD_b, Nat.reduceAdd, Nat.reduceEqDiff, Nat.reduceLeDiff] <;> omega) | with_unfolding_all rfl | decide)) only [go_sem, Nat.reduceAdd, Nat.reduceSub, Nat.reduceMul, Nat.reduceLeDiff, Nat.reduceEqDiff, Nat.reduceBEq, reduceIte, reduceCtorEq, c_reply_Same, encR, c1, Bool.false_and]
  cases c2 : a.n == b.n
  · simp (maxSteps := 2000000) -implicitDefEqProofs (disch := (refine id_ok ?_; first | assumption | omega | (simp only [go_sem, List.size_toArray, List.length_map, List.length_append, List.length_take, List.length_drop, List.length_cons, List.length_nil, mrLL_app, keyD_i, keyD_s, keyD_b, Nat.reduceAdd, Nat.reduceEqDiff, Nat.reduceLeDiff] <;> omega) | with_unfolding_all rfl | decide)) only [go_sem, Nat.reduceAdd, Nat.reduceSub, Nat.reduceMul, Nat.reduceLeDiff, Nat.reduceEqDiff, Nat.reduceBEq, reduceIte, reduceCtorEq, c_reply_Same, encR, c1, c2, Bool.false_and]
  cases c3
  · simp (maxSteps := 2000000) -implicitDefEqProofs (disch := (refine id_ok ?_; first | assumption | omega | (simp only [go_sem, List.size_toArray, List.length_map, List.length_append, List.length_take, List.length_drop, List.length_cons, List.length_nil, mrLL_app, keyD_i, keyD_s, keyD_b, Nat.reduceAdd, Nat.reduceEqDiff, Nat.reduceLeDiff] <;> omega) | with_unfolding_all rfl | decide)) only [go_sem, Nat.reduceAdd, Nat.reduceSub, Nat.reduceMul, Nat.reduceLeDiff, Nat.reduceEqDiff, Nat.reduceBEq, reduceIte, reduceCtorEq, c_reply_Same, encR, c1, c2, h1, Bool.false_and]
  cases c4
  · simp (maxSteps := 2000000) -implicitDefEqProofs (disch := (refine id_ok ?_; first | assumption | omega | (simp only [go_sem, List.size_toArray, List.length_map, List.length_append, List.length_take, List.length_drop, List.length_cons, List.length_nil, mrLL_app, keyD_i, keyD_s, keyD_b, Nat.reduceAdd, Nat.reduceEqDiff, Nat.reduceLeDiff] <;> omega) | with_unfolding_all rfl | decide)) only [go_sem, Nat.reduceAdd, Nat.reduceSub, Nat.reduceMul, Nat.reduceLeDiff, Nat.reduceEqDiff, Nat.reduceBEq, reduceIte, reduceCtorEq, c_reply_Same, encR, c1, c2, h1, h4, Bool.false_and]
  cases c5
  · simp (maxSteps := 2000000) -implicitDefEqProofs (disch := (refine id_ok ?_; first | assumption | omega | (simp only [go_sem, List.size_toArray, List.length_map, List.length_append, List.length_take, List.length_drop, List.length_cons, List.length_nil, mrLL_app, keyD_i, keyD_s, keyD_b, Nat.reduceAdd, Nat.reduceEqDiff, Nat.reduceLeDiff] <;> omega) | with_unfolding_all rfl | decide)) only [go_sem, Nat.reduceAdd, Nat.reduceSub, Nat.reduceMul, Nat.reduceLeDiff, Nat.reduceEqDiff, Nat.reduceBEq, reduceIte, reduceCtorEq, c_reply_Same, encR, c1, c2, h1, h4, h2, Bool.false_and]
  · simp (maxSteps := 2000000) -implicitDefEqProofs (disch := (refine id_ok ?_; first | assumption | omega | (simp only [go_sem, List.size_toArray, List.length_map, List.length_append, List.length_take, List.length_drop, List.length_cons, List.length_nil, mrLL_app, keyD_i, keyD_s, keyD_b, Nat.reduceAdd, Nat.reduceEqDiff, Nat.reduceLeDiff] <;> omega) | with_unfolding_all rfl | decide)) only [go_sem, Nat.reduceAdd, Nat.reduceSub, Nat.reduceMul, Nat.reduceLeDiff, Nat.reduceEqDiff, Nat.reduceBEq, reduceIte, reduceCtorEq, c_reply_Same, encR, c1, c2, h1, h4, h2, h3, Bool.true_and]
theorem samR_self (r : Rep) : samR r r = true := by simp [samR]
def grtR (r : Rep) : Bool := decide (r.text.length > 600) || (decide (r.cat.length > 100) || (decide (r.label.length > 30) || decide (r.kids.length > 60)))
set_option maxHeartbeats 4000000 in
theorem grtR_run {r : Rep} : run T 22 [.agg (encR r)] [] = some (.bool (grtR r), []) := by
  rw [run_code T_22]
  have e1 : decide ((r.text.length : Int) > 600) = decide (r.text.length > 600) := by congr 1; exact propext (by omega)
  have e2 : decide ((r.cat.length : Int) > 100) = decide (r.cat.length > 100) := by congr 1; exact propext (by omega)
  have e3 : decide ((r.label.length : Int) > 30) = decide (r.label.length > 30) := by congr 1; exact propext (by omega)
  have e4 : decide ((r.kids.length : Int) > 60) = decide (r.kids.length > 60) := by congr 1; exact propext (by omega)
  have hs : grtR r = (decide (r.text.length > 600) || (decide (r.cat.length > 100) || (decide (r.label.length > 30) || decide (r.kids.length > 60)))) := rfl
  rw [hs]
  have z2 : ∀ l : List UInt8, (⟨l.toArray⟩ : ByteArray).size = l.length := fun l => by simp [ByteArray.size]
  generalize decide (r.text.length > 600) = c1 at *
  generalize decide (r.cat.length > 100) = c2 at *
  generalize decide (r.label.length > 30) = c3 at *
  generalize decide (r.kids.length > 60) = c4 at *
  cases c1
  · cases c2
    · cases c3
      · simp (maxSteps := 2000000) -implicitDefEqProofs (disch := (refine id_ok ?_; first | assumption | omega | (simp only [go_sem, List.size_toArray, List.length_map, List.length_append, List.length_take, List.length_drop, List.length_cons, List.length_nil, mrLL_app, keyD_i, keyD_s, keyD_b, Nat.reduceAdd, Nat.reduceEqDiff, Nat.reduceLeDiff] <;> omega) | with_unfolding_all rfl | decide)) only [go_sem, Nat.reduceAdd, Nat.reduceSub, Nat.reduceMul, Nat.reduceLeDiff, Nat.reduceEqDiff, Nat.reduceBEq, reduceIte, reduceCtorEq, c_regencylaw12_great, encR, z2, List.length_map, e1, e2, e3, e4, Bool.false_or]
      · simp (maxSteps := 2000000) -implicitDefEqProofs (disch := (refine id_ok ?_; first | assumption | omega | (simp only [go_sem, List.size_toArray, List.length_map, List.length_append, List.length_take, List.length_drop, List.length_cons, List.length_nil, mrLL_app, keyD_i, keyD_s, keyD_b, Nat.reduceAdd, Nat.reduceEqDiff, Nat.reduceLeDiff] <;> omega) | with_unfolding_all rfl | decide)) only [go_sem, Nat.reduceAdd, Nat.reduceSub, Nat.reduceMul, Nat.reduceLeDiff, Nat.reduceEqDiff, Nat.reduceBEq, reduceIte, reduceCtorEq, c_regencylaw12_great, encR, z2, List.length_map, e1, e2, e3, Bool.false_or, Bool.true_or]
    · simp (maxSteps := 2000000) -implicitDefEqProofs (disch := (refine id_ok ?_; first | assumption | omega | (simp only [go_sem, List.size_toArray, List.length_map, List.length_append, List.length_take, List.length_drop, List.length_cons, List.length_nil, mrLL_app, keyD_i, keyD_s, keyD_b, Nat.reduceAdd, Nat.reduceEqDiff, Nat.reduceLeDiff] <;> omega) | with_unfolding_all rfl | decide)) only [go_sem, Nat.reduceAdd, Nat.reduceSub, Nat.reduceMul, Nat.reduceLeDiff, Nat.reduceEqDiff, Nat.reduceBEq, reduceIte, reduceCtorEq, c_regencylaw12_great, encR, z2, List.length_map, e1, e2, Bool.false_or, Bool.true_or]
  · simp (maxSteps := 2000000) -implicitDefEqProofs (disch := (refine id_ok ?_; first | assumption | omega | (simp only [go_sem, List.size_toArray, List.length_map, List.length_append, List.length_take, List.length_drop, List.length_cons, List.length_nil, mrLL_app, keyD_i, keyD_s, keyD_b, Nat.reduceAdd, Nat.reduceEqDiff, Nat.reduceLeDiff] <;> omega) | with_unfolding_all rfl | decide)) only [go_sem, Nat.reduceAdd, Nat.reduceSub, Nat.reduceMul, Nat.reduceLeDiff, Nat.reduceEqDiff, Nat.reduceBEq, reduceIte, reduceCtorEq, c_regencylaw12_great, encR, z2, List.length_map, e1, Bool.true_or]
end Go.Proofs.YtjeigcnaalleiaaGreatDoor.L

/- ReplyBack: what its function comes to. -/
set_option linter.all false
set_option maxRecDepth 100000
namespace Go.Proofs.YtjeigcnaalleiaaGreatDoor.L
open Go.Proofs.YtjeigcnaalleiaaGreatDoor.M Go.Proofs.YtjeigcnaalleiaaGreatDoor.F Go.Proofs

theorem first12 : run T 21 [] [] = some (.bool true, []) := run_of (n := 300) (by kernel_rfl)
theorem okR_of {r : Rep} (h : rigR r = true) : okR r := by
  obtain ⟨_, _, _, hc, _, _, _, hl, hk, _⟩ := rigR_all h
  exact ⟨by omega, by omega, fun e he => by have := (hl e he).1; omega⟩
theorem repRes_some {b : List UInt8} {r : Rep} (h : parR b = some r) : repRes b = .tup [.agg (encR r), .nili] := by unfold repRes; rw [h]
theorem repRes_none {b : List UInt8} (h : parR b = none) : repRes b = .tup [.agg (encR zeroR), fT repl 10 (er (tapE (rdR b).s))] := by unfold repRes; rw [h]; rfl
set_option maxHeartbeats 8000000 in
theorem back_run {r : Rep} {b : List UInt8} (ho : ∀ e ∈ r.label, e.1.length ≤ 281474976710656) : run T 6 [.agg (encR r), .sl .sh (b.map encB)] [] = some (.bool true, []) := by
  have h1 := first12
  have h2 := grtR_run (r := r)
  rw [run_code T_6]
  simp only [encR] at h2 ⊢
  cases hg : grtR r with
  | true =>
    rw [hg] at h2
    simp (maxSteps := 2000000) -implicitDefEqProofs (disch := (refine id_ok ?_; first | assumption | omega | (simp only [go_sem, List.size_toArray, List.length_map, List.length_append, List.length_take, List.length_drop, List.length_cons, List.length_nil, mrLL_app, keyD_i, keyD_s, keyD_b, Nat.reduceAdd, Nat.reduceEqDiff, Nat.reduceLeDiff] <;> omega) | with_unfolding_all rfl | decide)) only [go_sem, Nat.reduceAdd, Nat.reduceSub, Nat.reduceMul, Nat.reduceLeDiff, Nat.reduceEqDiff, Nat.reduceBEq, reduceIte, reduceCtorEq, c_regencylaw12_ReplyBack, encR, List.length_map, h1, h2]
  | false =>
    rw [hg] at h2
    have hll : r.label.length ≤ 30 ∧ r.kids.length ≤ 60 ∧ r.cat.length ≤ 100 := by
      simp only [grtR, Bool.or_eq_false_iff, decide_eq_false_iff_not] at hg
      omega
    by_cases hb : (b.length : Int) > 900
    · have e1 : decide ((b.length : Int) > 900) = true := decide_eq_true hb
      simp (maxSteps := 2000000) -implicitDefEqProofs (disch := (refine id_ok ?_; first | assumption | omega | (simp only [go_sem, List.size_toArray, List.length_map, List.length_append, List.length_take, List.length_drop, List.length_cons, List.length_nil, mrLL_app, keyD_i, keyD_s, keyD_b, Nat.reduceAdd, Nat.reduceEqDiff, Nat.reduceLeDiff] <;> omega) | with_unfolding_all rfl | decide)) only [go_sem, Nat.reduceAdd, Nat.reduceSub, Nat.reduceMul, Nat.reduceLeDiff, Nat.reduceEqDiff, Nat.reduceBEq, reduceIte, reduceCtorEq, c_regencylaw12_ReplyBack, encR, List.length_map, h1, h2, e1]
    have e1 : decide ((b.length : Int) > 900) = false := decide_eq_false hb
    have ho : okR r := ⟨by omega, by omega, ho⟩
    have h3 := rigR_run ho.1 ho.2.1 ho.2.2
    have h4 := bytR_run ho
    have hni : ∀ e, isnilV .ifc true (fT repl 10 (er e)) = some (.bool true) := fun e => rfl
    have hfs : ∀ e, (fT repl 10 (er e)).sh = fT repl 10 (er e) := fun e => by cases e <;> rfl
    have p1 := fun h => parR_run (b := b) (h := h) (by omega)
    have hs := samR_run (a := r) (b := r) (h := []) (by omega) (by omega)
    rw [samR_self] at hs
    have hz : encR zeroR = [.int .i64 0, .int .i64 0, .sl .sh [], .str ⟨#[]⟩, .sl .sh [], .sl .sh []] := rfl
    cases hr : rigR r with
    | false =>
      rw [hr] at h3
      simp only [encR] at h3
      cases hp : parR b with
      | none =>
        rw [repRes_none hp, hz] at p1
        simp (maxSteps := 4000000) -implicitDefEqProofs (disch := (refine id_ok ?_; first | assumption | omega | (simp only [go_sem, List.size_toArray, List.length_map, List.length_append, List.length_take, List.length_drop, List.length_cons, List.length_nil, mrLL_app, keyD_i, keyD_s, keyD_b, Nat.reduceAdd, Nat.reduceEqDiff, Nat.reduceLeDiff] <;> omega) | with_unfolding_all rfl | decide)) only [go_sem, Nat.reduceAdd, Nat.reduceSub, Nat.reduceMul, Nat.reduceLeDiff, Nat.reduceEqDiff, Nat.reduceBEq, reduceIte, reduceCtorEq, c_regencylaw12_ReplyBack, encR, List.length_map, h1, h2, e1, h3, p1, hni, hfs]
      | some x =>
        rw [repRes_some hp] at p1
        obtain ⟨q1, q2⟩ := parR_inv hp
        have h5 := bytR_run (okR_of q1)
        rw [show bytR x = byR x by unfold bytR; rw [if_pos q1], q2] at h5
        simp only [encR] at h5 p1
        have e2 := bl_dec b b
        simp only [decide_true] at e2
        simp (maxSteps := 4000000) -implicitDefEqProofs (disch := (refine id_ok ?_; first | assumption | omega | (simp only [go_sem, List.size_toArray, List.length_map, List.length_append, List.length_take, List.length_drop, List.length_cons, List.length_nil, mrLL_app, keyD_i, keyD_s, keyD_b, Nat.reduceAdd, Nat.reduceEqDiff, Nat.reduceLeDiff] <;> omega) | with_unfolding_all rfl | decide)) only [go_sem, Nat.reduceAdd, Nat.reduceSub, Nat.reduceMul, Nat.reduceLeDiff, Nat.reduceEqDiff, Nat.reduceBEq, reduceIte, reduceCtorEq, c_regencylaw12_ReplyBack, encR, List.length_map, h1, h2, e1, h3, p1, h5, e2]
    | true =>
      rw [hr] at h3
      have hl := bytR_len r
      have hbr : bytR r = byR r := by unfold bytR; rw [if_pos hr]
      have p2 := fun h => parR_run (b := byR r) (h := h) (by rw [← hbr]; omega)
      rw [repRes_some (parR_put hr)] at p2
      rw [hbr] at h4
      simp only [encR] at h3 h4 hs p2
      cases hp : parR b with
      | none =>
        rw [repRes_none hp, hz] at p1
        simp (maxSteps := 4000000) -implicitDefEqProofs (disch := (refine id_ok ?_; first | assumption | omega | (simp only [go_sem, List.size_toArray, List.length_map, List.length_append, List.length_take, List.length_drop, List.length_cons, List.length_nil, mrLL_app, keyD_i, keyD_s, keyD_b, Nat.reduceAdd, Nat.reduceEqDiff, Nat.reduceLeDiff] <;> omega) | with_unfolding_all rfl | decide)) only [go_sem, Nat.reduceAdd, Nat.reduceSub, Nat.reduceMul, Nat.reduceLeDiff, Nat.reduceEqDiff, Nat.reduceBEq, reduceIte, reduceCtorEq, c_regencylaw12_ReplyBack, encR, List.length_map, h1, h2, e1, h3, h4, p2, hs, p1, hni, hfs]
      | some x =>
        rw [repRes_some hp] at p1
        obtain ⟨q1, q2⟩ := parR_inv hp
        have h5 := bytR_run (okR_of q1)
        rw [show bytR x = byR x by unfold bytR; rw [if_pos q1], q2] at h5
        simp only [encR] at h5 p1
        have e2 := bl_dec b b
        simp only [decide_true] at e2
        simp (maxSteps := 4000000) -implicitDefEqProofs (disch := (refine id_ok ?_; first | assumption | omega | (simp only [go_sem, List.size_toArray, List.length_map, List.length_append, List.length_take, List.length_drop, List.length_cons, List.length_nil, mrLL_app, keyD_i, keyD_s, keyD_b, Nat.reduceAdd, Nat.reduceEqDiff, Nat.reduceLeDiff] <;> omega) | with_unfolding_all rfl | decide)) only [go_sem, Nat.reduceAdd, Nat.reduceSub, Nat.reduceMul, Nat.reduceLeDiff, Nat.reduceEqDiff, Nat.reduceBEq, reduceIte, reduceCtorEq, c_regencylaw12_ReplyBack, encR, List.length_map, h1, h2, e1, h3, h4, p2, hs, p1, h5, e2]
end Go.Proofs.YtjeigcnaalleiaaGreatDoor.L
