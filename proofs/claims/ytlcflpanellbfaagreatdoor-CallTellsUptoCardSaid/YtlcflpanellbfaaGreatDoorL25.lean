/- Labels: which are right. -/
import Derived.Test.YtlcflpanellbfaaGreatDoorL22
import Derived.Test.YtlcflpanellbfaaGreatDoorL20
set_option linter.all false
set_option maxRecDepth 100000
namespace Go.Proofs.YtlcflpanellbfaaGreatDoor.L
open Go.Proofs.YtlcflpanellbfaaGreatDoor.M Go.Proofs.YtlcflpanellbfaaGreatDoor.F Go.Proofs
abbrev Ent := List UInt8 × Int
def encE (e : Ent) : List AV := [.str ⟨e.1.toArray⟩, .int .i64 e.2]
theorem szOK_E {p : List Ent} : szOK 2 (p.map encE) = true := by cases p <;> rfl
theorem mrLL_E : ∀ {p : List Ent}, mrLL (p.map encE) = 0
  | [] => rfl
  | a :: p => by simp only [List.map_cons, mrLL, mrLL_E (p := p)]; rfl
attribute [go_sem] szOK_E mrLL_E
def rigE (prev : Option (List UInt8)) : List Ent → Bool
  | [] => true
  | e :: r => rigC e.1 && !(e.2 == 1) && decide (0 ≤ e.2) && decide (e.2 < 4) && (match prev with | none => true | some p => decide (comC p e.1 < 0)) && rigE (some e.1) r
def rigL (l : List Ent) : Bool := decide (l.length ≤ 8) && rigE none l
def prvE (l : List Ent) (i : Nat) : Option (List UInt8) := if i = 0 then none else (l[i - 1]?).map (·.1)
def HB (l : List Ent) (i : Nat) : AH := (l.take i).map fun e => .cells (encE e)
theorem at_run {e : Ent} {b : List UInt8} (ha : e.1.length ≤ 281474976710656) (hb : b.length ≤ 281474976710656) : run T 96 [.agg (encE e), .str ⟨b.toArray⟩] [] = some (.int .i64 (comC e.1 b), []) := by
  have h1 := comC_run (h := []) ha hb
  rw [run_code T_96]
  simp -implicitDefEqProofs (disch := (refine id_ok ?_; first | assumption | omega | (simp [go_sem] <;> omega) | with_unfolding_all rfl | decide)) only [go_sem, Nat.reduceAdd, Nat.reduceSub, Nat.reduceMul, Nat.reduceLeDiff, Nat.reduceEqDiff, Nat.reduceBEq, reduceIte, reduceCtorEq, c_label_at, encE, h1]
set_option maxHeartbeats 2000000 in
theorem rigE_loop {l : List Ent} (hl : ∀ e ∈ l, e.1.length ≤ 281474976710656) (h8 : l.length ≤ 8) : ∀ (d i : Nat), d + i = l.length →
    (rigE (prvE l i) (l.drop i) = true ∧ den T (.loop l_label_Right_0) (s_label_Right_0 (.sl .sh (l.map encE)) (.sl .sh (l.map encE)) (.int .i64 l.length) (.int .i64 i)) (HB l i) = some (.exit 0, x_label_Right_0, HB l l.length)) ∨
    ∃ σ h', den T (.loop l_label_Right_0) (s_label_Right_0 (.sl .sh (l.map encE)) (.sl .sh (l.map encE)) (.int .i64 l.length) (.int .i64 i)) (HB l i) = some (.ret, σ, h') ∧ σ.getD 2 undefA = .bool false ∧ rigE (prvE l i) (l.drop i) = false := by
  intro d
  induction d with
  | zero =>
    intro i hd
    have hd' : decide ((i : Int) < l.length) = false := decide_eq_false (by omega)
    refine .inl ⟨by rw [List.drop_eq_nil_of_le (by omega)]; rfl, ?_⟩
    rw [lp_round]
    simp -implicitDefEqProofs (disch := (refine id_ok ?_; first | assumption | omega | (simp [go_sem] <;> omega) | with_unfolding_all rfl | decide)) only [go_sem, Nat.reduceAdd, Nat.reduceSub, Nat.reduceMul, Nat.reduceLeDiff, Nat.reduceEqDiff, Nat.reduceBEq, reduceIte, reduceCtorEq, hd']
    rw [show i = l.length by omega]
  | succ d ih =>
    intro i hd
    have hib : i < l.length := by omega
    have hd' : decide ((i : Int) < l.length) = true := decide_eq_true (by omega)
    have hge : (l.map encE)[(i : Int).toNat]? = some (encE l[i]) := by simp [hib]
    have hdr : l.drop i = l[i] :: l.drop (i + 1) := List.drop_eq_getElem_cons hib
    have hH : HB l (i + 1) = HB l i ++ [.cells (encE l[i])] := by unfold HB; rw [List.take_succ_eq_append_getElem hib, List.map_append]; rfl
    have hHl : (HB l i).length = i := by unfold HB; simp; omega
    have hpr : prvE l (i + 1) = some l[i].1 := by simp [prvE, hib]
    have hcl := hl l[i] (by simp)
    have ih' := ih (i + 1) (by omega)
    rw [hpr, hH] at ih'
    have hprv : i ≠ 0 → ∃ p : Ent, (l.map encE)[((i : Int) - 1).toNat]? = some (encE p) ∧ prvE l i = some p.1 ∧ p.1.length ≤ 281474976710656 := by
      intro h0
      have hj : i - 1 < l.length := by omega
      refine ⟨l[i - 1], ?_, ?_, hl _ (by simp)⟩
      · rw [show ((i : Int) - 1).toNat = i - 1 by omega]; simp [hj]
      · simp [prvE, h0, hj]
    rw [hdr]
    generalize l[i] = e at *
    obtain ⟨c, v⟩ := e
    simp only at hcl ih' hpr
    have h1 := rigC_run (h := []) hcl
    simp only [rigE]
    cases hc : rigC c with
    | false =>
      rw [hc] at h1
      right
      rw [lp_round]
      simp -implicitDefEqProofs (disch := (refine id_ok ?_; first | assumption | omega | (simp [go_sem] <;> omega) | with_unfolding_all rfl | decide)) only [go_sem, Nat.reduceAdd, Nat.reduceSub, Nat.reduceMul, Nat.reduceLeDiff, Nat.reduceEqDiff, Nat.reduceBEq, reduceIte, reduceCtorEq, hd', hge, encE, h1]
      exact ⟨_, _, ⟨rfl, rfl⟩, rfl, rfl⟩
    | true =>
      rw [hc] at h1
      by_cases hv1 : v = 1
      · have e1 : (v == 1) = true := by simp [hv1]
        right
        rw [lp_round]
        simp -implicitDefEqProofs (disch := (refine id_ok ?_; first | assumption | omega | (simp [go_sem] <;> omega) | with_unfolding_all rfl | decide)) only [go_sem, Nat.reduceAdd, Nat.reduceSub, Nat.reduceMul, Nat.reduceLeDiff, Nat.reduceEqDiff, Nat.reduceBEq, reduceIte, reduceCtorEq, hd', hge, encE, h1, e1]
        exact ⟨_, _, ⟨rfl, rfl⟩, rfl, rfl⟩
      · have e1 : (v == 1) = false := by simp [hv1]
        by_cases hv2 : v < 0
        · have e2 : decide (v < 0) = true := decide_eq_true hv2
          have e2' : decide (0 ≤ v) = false := decide_eq_false (by omega)
          right
          rw [lp_round]
          simp -implicitDefEqProofs (disch := (refine id_ok ?_; first | assumption | omega | (simp [go_sem] <;> omega) | with_unfolding_all rfl | decide)) only [go_sem, Nat.reduceAdd, Nat.reduceSub, Nat.reduceMul, Nat.reduceLeDiff, Nat.reduceEqDiff, Nat.reduceBEq, reduceIte, reduceCtorEq, hd', hge, encE, h1, e1, e2, e2']
          exact ⟨_, _, ⟨rfl, rfl⟩, rfl, rfl⟩
        · have e2 : decide (v < 0) = false := decide_eq_false hv2
          have e2' : decide (0 ≤ v) = true := decide_eq_true (by omega)
          by_cases hv3 : v ≥ 4
          · have e3 : decide (v ≥ 4) = true := decide_eq_true hv3
            have e3' : decide (v < 4) = false := decide_eq_false (by omega)
            right
            rw [lp_round]
            simp -implicitDefEqProofs (disch := (refine id_ok ?_; first | assumption | omega | (simp [go_sem] <;> omega) | with_unfolding_all rfl | decide)) only [go_sem, Nat.reduceAdd, Nat.reduceSub, Nat.reduceMul, Nat.reduceLeDiff, Nat.reduceEqDiff, Nat.reduceBEq, reduceIte, reduceCtorEq, hd', hge, encE, h1, e1, e2, e2', e3, e3']
            exact ⟨_, _, ⟨rfl, rfl⟩, rfl, rfl⟩
          · have e3 : decide (v ≥ 4) = false := decide_eq_false hv3
            have e3' : decide (v < 4) = true := decide_eq_true (by omega)
            have e7 : IntKind.i64.wrap ((i : Int) + 1) = ((i + 1 : Nat) : Int) := by rw [w64 (by omega) (by omega)]; rfl
            simp only [e1, e2', e3', Bool.not_false, Bool.and_true, Bool.true_and]
            by_cases h0 : i = 0
            · have e4 : decide ((i : Int) > 0) = false := decide_eq_false (by omega)
              have hp0 : prvE l i = none := by simp [prvE, h0]
              rw [hp0]
              simp only [Bool.true_and]
              rw [lp_round]
              simp -implicitDefEqProofs (disch := (refine id_ok ?_; first | assumption | omega | (simp [go_sem] <;> omega) | with_unfolding_all rfl | decide)) only [go_sem, Nat.reduceAdd, Nat.reduceSub, Nat.reduceMul, Nat.reduceLeDiff, Nat.reduceEqDiff, Nat.reduceBEq, reduceIte, reduceCtorEq, hd', hge, encE, h1, e1, e2, e3, e4, e7]
              exact ih'
            · have e4 : decide ((i : Int) > 0) = true := decide_eq_true (by omega)
              obtain ⟨q, hq1, hq2, hq3⟩ := hprv h0
              have ha := at_run (e := q) (b := c) hq3 hcl
              have e5 : IntKind.i64.wrap ((i : Int) - 1) = (i : Int) - 1 := w64 (by omega) (by omega)
              rw [hq2]
              simp only
              by_cases hcc : comC q.1 c ≥ 0
              · have e6 : decide (comC q.1 c ≥ 0) = true := decide_eq_true hcc
                have e6' : decide (comC q.1 c < 0) = false := decide_eq_false (by omega)
                right
                rw [lp_round]
                simp only [encE] at hq1 ha
                simp -implicitDefEqProofs (disch := (refine id_ok ?_; first | assumption | omega | (simp [go_sem] <;> omega) | with_unfolding_all rfl | decide)) only [go_sem, Nat.reduceAdd, Nat.reduceSub, Nat.reduceMul, Nat.reduceLeDiff, Nat.reduceEqDiff, Nat.reduceBEq, reduceIte, reduceCtorEq, hd', hge, encE, h1, e1, e2, e3, e4, e5, hq1, ha, e6, e6']
                exact ⟨_, _, ⟨rfl, rfl⟩, rfl, rfl⟩
              · have e6 : decide (comC q.1 c ≥ 0) = false := decide_eq_false hcc
                have e6' : decide (comC q.1 c < 0) = true := decide_eq_true (by omega)
                simp only [e6', Bool.true_and]
                rw [lp_round]
                simp only [encE] at hq1 ha
                simp -implicitDefEqProofs (disch := (refine id_ok ?_; first | assumption | omega | (simp [go_sem] <;> omega) | with_unfolding_all rfl | decide)) only [go_sem, Nat.reduceAdd, Nat.reduceSub, Nat.reduceMul, Nat.reduceLeDiff, Nat.reduceEqDiff, Nat.reduceBEq, reduceIte, reduceCtorEq, hd', hge, encE, h1, e1, e2, e3, e4, e5, hq1, ha, e6, e7]
                exact ih'
theorem rigL_run {l : List Ent} (hl : ∀ e ∈ l, e.1.length ≤ 281474976710656) : run T 67 [.sl .sh (l.map encE)] [] = some (.bool (rigL l), []) := by
  rw [run_code T_67]
  unfold rigL
  by_cases h8 : l.length ≤ 8
  · have e1 : decide ((l.length : Int) > 8) = false := decide_eq_false (by omega)
    have hlp := rigE_loop hl h8 l.length 0 (by omega)
    simp only [List.drop_zero, show ((0 : Nat) : Int) = 0 from rfl, show HB l 0 = [] from rfl, show prvE l 0 = none from rfl] at hlp
    rw [decide_eq_true h8, Bool.true_and]
    rcases hlp with ⟨h1, h2⟩ | ⟨σ, h', h1, h2, h3⟩
    · rw [h1]
      simp -implicitDefEqProofs (disch := (refine id_ok ?_; first | assumption | omega | (simp [go_sem] <;> omega) | with_unfolding_all rfl | decide)) only [go_sem, Nat.reduceAdd, Nat.reduceSub, Nat.reduceMul, Nat.reduceLeDiff, Nat.reduceEqDiff, Nat.reduceBEq, reduceIte, reduceCtorEq, c_label_Right, List.length_map, e1, h2]
    · rw [h3]
      simp -implicitDefEqProofs (disch := (refine id_ok ?_; first | assumption | omega | (simp [go_sem] <;> omega) | with_unfolding_all rfl | decide)) only [go_sem, Nat.reduceAdd, Nat.reduceSub, Nat.reduceMul, Nat.reduceLeDiff, Nat.reduceEqDiff, Nat.reduceBEq, reduceIte, reduceCtorEq, c_label_Right, List.length_map, e1, h1, h2]
  · have e1 : decide ((l.length : Int) > 8) = true := decide_eq_true (by omega)
    rw [decide_eq_false h8, Bool.false_and]
    simp -implicitDefEqProofs (disch := (refine id_ok ?_; first | assumption | omega | (simp [go_sem] <;> omega) | with_unfolding_all rfl | decide)) only [go_sem, Nat.reduceAdd, Nat.reduceSub, Nat.reduceMul, Nat.reduceLeDiff, Nat.reduceEqDiff, Nat.reduceBEq, reduceIte, reduceCtorEq, c_label_Right, List.length_map, e1]
end Go.Proofs.YtlcflpanellbfaaGreatDoor.L
/- Labels: written and read. -/
set_option linter.all false
set_option maxRecDepth 100000
namespace Go.Proofs.YtlcflpanellbfaaGreatDoor.L
open Go.Proofs.YtlcflpanellbfaaGreatDoor.M Go.Proofs.YtlcflpanellbfaaGreatDoor.F Go.Proofs
theorem mrB_Pn {l : List UInt8} : mrB (Pn l) = 0 := by
  have h : ∀ l : List UInt8, mrLL (l.map encB) = 0 := by
    intro l; induction l with
    | nil => rfl
    | cons a l ih => simp only [List.map_cons, mrLL, ih]; rfl
  have h1 : (ow (l.map encB)).mr = 0 := by rw [ow_mr]; exact h l
  simp [Pn, mrB, mrL, h1]
def enE1 (e : Ent) : List UInt8 := num e.1.length ++ e.1 ++ num e.2.toNat
def bxE (e : Ent) : Bx := .cells (encE e)
theorem put_loop {p : Nat} {l : List Ent} (hl : ∀ e ∈ l, e.1.length ≤ 1000000 ∧ 0 ≤ e.2 ∧ e.2 ≤ 1000000) (hll : l.length ≤ 1000000) : ∀ (d i : Nat) (H : AH) (b : List UInt8), d + i = l.length → H[p]? = some (Pn b) → b.length + d * 1000018 + 18 ≤ 100000000000 →
    den T (.loop l_label_Put_0) (s_label_Put_0 (.box p 0) (.sl .sh (l.map encE)) (.int .i64 l.length) (.int .i64 i)) H = some (.exit 0, x_label_Put_0, H.set p (Pn (b ++ (l.drop i).flatMap enE1)) ++ (l.drop i).map bxE) := by
  intro d
  induction d with
  | zero =>
    intro i H b hd hp hb
    have hd' : decide ((i : Int) < l.length) = false := decide_eq_false (by omega)
    rw [List.drop_eq_nil_of_le (by omega), List.flatMap_nil, List.append_nil, set_same hp, List.map_nil, List.append_nil]
    rw [lp_round]
    simp -implicitDefEqProofs (disch := (refine id_ok ?_; first | assumption | omega | (simp [go_sem] <;> omega) | with_unfolding_all rfl | decide)) only [go_sem, Nat.reduceAdd, Nat.reduceSub, Nat.reduceMul, Nat.reduceLeDiff, Nat.reduceEqDiff, Nat.reduceBEq, reduceIte, reduceCtorEq, hd']
  | succ d ih =>
    intro i H b hd hp hb
    have hib : i < l.length := by omega
    have hd' : decide ((i : Int) < l.length) = true := decide_eq_true (by omega)
    have hge : (l.map encE)[(i : Int).toNat]? = some (encE l[i]) := by simp [hib]
    have hdr : l.drop i = l[i] :: l.drop (i + 1) := List.drop_eq_getElem_cons hib
    have hcl := hl l[i] (by simp)
    rw [hdr]
    generalize l[i] = e at *
    obtain ⟨c, v⟩ := e
    simp only at hcl
    obtain ⟨hc1, hc2, hc3⟩ := hcl
    obtain ⟨v, rfl⟩ : ∃ n : Nat, v = n := ⟨v.toNat, by omega⟩
    have hlt : p < H.length := (List.getElem?_eq_some_iff.1 hp).1
    have hne : ∀ X : Bx, (H ++ [X])[p]? = some (Pn b) := fun X => by rw [List.getElem?_append_left hlt]; exact hp
    have n1 := num_len (n := c.length) (by omega)
    have n2 := num_len (n := v) (by omega)
    have t1 := ptext_run (s := c) (hne (.cells (encE (c, (v : Int))))) (by omega)
    rw [List.set_append_left _ _ hlt] at t1
    have t2 := pnum_run (p := p) (n := v) (l := b ++ num c.length ++ c) (h := H.set p (Pn (b ++ num c.length ++ c)) ++ [.cells (encE (c, (v : Int)))]) (by rw [List.getElem?_append_left (by simpa using hlt), List.getElem?_set_self hlt]) (by omega) (by simp only [List.length_append]; omega)
    rw [List.set_append_left _ _ (by simpa using hlt), List.set_set] at t2
    have gH : ∀ x c : Bx, (H.set p x ++ [c])[H.length]? = some c := fun x c => by rw [List.getElem?_append_right (by simp)]; simp
    have e7 : IntKind.i64.wrap ((i : Int) + 1) = ((i + 1 : Nat) : Int) := by rw [w64 (by omega) (by omega)]; rfl
    have ih' := ih (i + 1) (H.set p (Pn (b ++ num c.length ++ c ++ num v)) ++ [.cells (encE (c, (v : Int)))]) (b ++ num c.length ++ c ++ num v) (by omega) (by rw [List.getElem?_append_left (by simpa using hlt), List.getElem?_set_self hlt]) (by simp only [List.length_append]; omega)
    rw [List.set_append_left _ _ (by simpa using hlt), List.set_set] at ih'
    simp only [encE, List.append_assoc] at t1 t2
    simp only [List.append_assoc] at ih'
    rw [lp_round]
    simp -implicitDefEqProofs (disch := (refine id_ok ?_; first | assumption | omega | (simp [go_sem] <;> omega) | with_unfolding_all rfl | decide)) only [go_sem, Nat.reduceAdd, Nat.reduceSub, Nat.reduceMul, Nat.reduceLeDiff, Nat.reduceEqDiff, Nat.reduceBEq, reduceIte, reduceCtorEq, hd', hge, encE, t1, t2, gH, e7]
    refine ih'.trans ?_
    simp [enE1, bxE, encE, List.append_assoc]
theorem lput_run {p : Nat} {l : List Ent} {b : List UInt8} {h : AH} (hp : h[p]? = some (Pn b)) (hl : ∀ e ∈ l, e.1.length ≤ 1000000 ∧ 0 ≤ e.2 ∧ e.2 ≤ 1000000) (hll : l.length ≤ 10000) (hb : b.length ≤ 1000000000) :
    run T 72 [.box p 0, .sl .sh (l.map encE)] h = some (.tup [], h.set p (Pn (b ++ num l.length ++ l.flatMap enE1))) := by
  have hlt : p < h.length := (List.getElem?_eq_some_iff.1 hp).1
  have n1 := num_len (n := l.length) (by omega)
  have h1 := pnum_run (n := l.length) hp (by omega) (by omega)
  have h2 := put_loop hl (by omega) l.length 0 (h.set p (Pn (b ++ num l.length))) (b ++ num l.length) (by omega) (List.getElem?_set_self hlt) (by simp only [List.length_append]; omega)
  rw [List.drop_zero, List.set_set] at h2
  simp only [show ((0 : Nat) : Int) = 0 from rfl] at h2
  rw [run_code T_72]
  simp -implicitDefEqProofs (disch := (refine id_ok ?_; first | assumption | omega | (simp [go_sem] <;> omega) | with_unfolding_all rfl | decide)) only [go_sem, Nat.reduceAdd, Nat.reduceSub, Nat.reduceMul, Nat.reduceLeDiff, Nat.reduceEqDiff, Nat.reduceBEq, reduceIte, reduceCtorEq, c_label_Put, List.length_map, h1, h2]
  exact gc_dropS rfl mrB_Pn
def getEs : Nat → TS → List Ent × TS
  | 0, s => ([], s)
  | k + 1, s => (((tapT 80 s).1, ((tapN 3 (tapT 80 s).2).1 : Int)) :: (getEs k (tapN 3 (tapT 80 s).2).2).1, (getEs k (tapN 3 (tapT 80 s).2).2).2)
theorem getEs_len : ∀ (k : Nat) (s : TS), (getEs k s).2.1.length ≤ s.1.length
  | 0, s => Nat.le_refl _
  | k + 1, s => Nat.le_trans (getEs_len k _) (Nat.le_trans (tapN_len _ _) (tapT_len _ _))
theorem get_loop {t n : Nat} (hn : n ≤ 1000) : ∀ (d i : Nat) (H : AH) (s : TS) (a : List Ent), d + i = n → H[t]? = some (Tb s) → s.1.length ≤ 9223372036854775806 → a.length ≤ i →
    den T (.loop l_label_Get_0) (s_label_Get_0 (.box t 0) (ow (a.map encE)) (.int .i64 n) (.int .i64 i)) H = some (.exit 0, x_label_Get_0 (.box t 0) (ow ((a ++ (getEs d s).1).map encE)), H.set t (Tb (getEs d s).2)) := by
  intro d
  induction d with
  | zero =>
    intro i H s a hd ht hs ha
    have hd' : decide ((i : Int) < n) = false := decide_eq_false (by omega)
    simp only [getEs, List.append_nil]
    rw [set_same ht]
    rw [lp_round]
    simp -implicitDefEqProofs (disch := (refine id_ok ?_; first | assumption | omega | (simp [go_sem] <;> omega) | with_unfolding_all rfl | decide)) only [go_sem, Nat.reduceAdd, Nat.reduceSub, Nat.reduceMul, Nat.reduceLeDiff, Nat.reduceEqDiff, Nat.reduceBEq, reduceIte, reduceCtorEq, hd']
  | succ d ih =>
    intro i H s a hd ht hs ha
    have hlt : t < H.length := (List.getElem?_eq_some_iff.1 ht).1
    have hd' : decide ((i : Int) < n) = true := decide_eq_true (by omega)
    have t1 := ttext_run (g := 80) ht hs
    rw [show ((80 : Nat) : Int) = 80 from rfl] at t1
    have l1 := tapT_len 80 s
    have t2 := tnum_run (t := t) (g := 3) (s := (tapT 80 s).2) (h := H.set t (Tb (tapT 80 s).2)) (List.getElem?_set_self hlt) (by omega)
    rw [List.set_set] at t2
    rw [show ((3 : Nat) : Int) = 3 from rfl] at t2
    have l2 := tapN_len 3 (tapT 80 s).2
    have e7 : IntKind.i64.wrap ((i : Int) + 1) = ((i + 1 : Nat) : Int) := by rw [w64 (by omega) (by omega)]; rfl
    have ih' := ih (i + 1) (H.set t (Tb (tapN 3 (tapT 80 s).2).2)) (tapN 3 (tapT 80 s).2).2 (a ++ [((tapT 80 s).1, ((tapN 3 (tapT 80 s).2).1 : Int))]) (by omega) (List.getElem?_set_self hlt) (by omega) (by simp; omega)
    rw [List.set_set] at ih'
    simp only [getEs]
    simp only [List.map_append, List.map_cons, List.map_nil, encE, List.append_assoc, List.singleton_append] at ih' ⊢
    generalize tapT 80 s = x at *
    generalize tapN 3 x.2 = y at *
    rw [lp_round]
    simp -implicitDefEqProofs (disch := (refine id_ok ?_; first | assumption | omega | (simp [go_sem] <;> omega) | with_unfolding_all rfl | decide)) only [go_sem, Nat.reduceAdd, Nat.reduceSub, Nat.reduceMul, Nat.reduceLeDiff, Nat.reduceEqDiff, Nat.reduceBEq, reduceIte, reduceCtorEq, hd', t1, t2, e7]
    exact ih'
def getL (s : TS) : List Ent × Int × TS :=
  let q := getEs (tapN 8 s).1 (tapN 8 s).2
  if q.2.2.isSome = false ∧ rigL q.1 = true then (q.1, 0, q.2) else ([], 10, q.2)
theorem getEs_str : ∀ (k : Nat) (s : TS), ∀ e ∈ (getEs k s).1, e.1.length ≤ s.1.length
  | 0, s, e, he => by simp [getEs] at he
  | k + 1, s, e, he => by
    simp only [getEs, List.mem_cons] at he
    have l1 := tapT_len 80 s
    have l2 := tapN_len 3 (tapT 80 s).2
    rcases he with rfl | he
    · simp only
      have hn := tapN_len 80 s
      unfold tapT
      split
      · simp
      · split
        · simp
        · split
          · simp
          · simp; omega
    · exact Nat.le_trans (getEs_str k _ e he) (by omega)
theorem lget_run {t : Nat} {s : TS} {h : AH} (ht : h[t]? = some (Tb s)) (hs : s.1.length ≤ 281474976710656) :
    run T 80 [.box t 0] h = some (.tup [ow ((getL s).1.map encE), .int .i64 (getL s).2.1], h.set t (Tb (getL s).2.2)) := by
  have hlt : t < h.length := (List.getElem?_eq_some_iff.1 ht).1
  have t1 := tnum_run (g := 8) ht (by omega)
  rw [show ((8 : Nat) : Int) = 8 from rfl] at t1
  have l1 := tapN_len 8 s
  have l2 := tapN_le 8 s
  have hlp := get_loop (t := t) (n := (tapN 8 s).1) (by omega) (tapN 8 s).1 0 (h.set t (Tb (tapN 8 s).2)) (tapN 8 s).2 [] (by omega) (List.getElem?_set_self hlt) (by omega) (by simp)
  rw [List.set_set, List.nil_append] at hlp
  simp only [show ((0 : Nat) : Int) = 0 from rfl, List.map_nil] at hlp
  have hst := getEs_str (tapN 8 s).1 (tapN 8 s).2
  unfold getL
  generalize tapN 8 s = x at *
  generalize getEs x.1 x.2 = q at *
  obtain ⟨a, b, e⟩ := q
  have t2 := terr_run (t := t) (s := (b, e)) (h := h.set t (Tb (b, e))) (List.getElem?_set_self hlt)
  have t3 := rigL_run (l := a) (fun e he => by have := hst e he; omega)
  rw [run_code T_80]
  simp only at hlp t2 t3 ⊢
  cases e with
  | some c =>
    simp only [Option.isSome_some, Bool.true_eq_false, false_and, if_false, List.map_nil]
    simp -implicitDefEqProofs (disch := (refine id_ok ?_; first | assumption | omega | (simp [go_sem] <;> omega) | with_unfolding_all rfl | decide)) only [go_sem, Nat.reduceAdd, Nat.reduceSub, Nat.reduceMul, Nat.reduceLeDiff, Nat.reduceEqDiff, Nat.reduceBEq, reduceIte, reduceCtorEq, c_label_Get, t1, hlp, t2]
  | none =>
    simp only [Option.isSome_none, true_and]
    cases hr : rigL a with
    | true =>
      rw [hr] at t3
      simp only [if_true]
      simp -implicitDefEqProofs (disch := (refine id_ok ?_; first | assumption | omega | (simp [go_sem] <;> omega) | with_unfolding_all rfl | decide)) only [go_sem, Nat.reduceAdd, Nat.reduceSub, Nat.reduceMul, Nat.reduceLeDiff, Nat.reduceEqDiff, Nat.reduceBEq, reduceIte, reduceCtorEq, c_label_Get, t1, hlp, t2, t3]
    | false =>
      rw [hr] at t3
      simp only [Bool.false_eq_true, if_false, List.map_nil]
      simp -implicitDefEqProofs (disch := (refine id_ok ?_; first | assumption | omega | (simp [go_sem] <;> omega) | with_unfolding_all rfl | decide)) only [go_sem, Nat.reduceAdd, Nat.reduceSub, Nat.reduceMul, Nat.reduceLeDiff, Nat.reduceEqDiff, Nat.reduceBEq, reduceIte, reduceCtorEq, c_label_Get, t1, hlp, t2, t3]
end Go.Proofs.YtlcflpanellbfaaGreatDoor.L
