/- Ownerships: right, put, read; a tape's flags and what is left of it. -/
import Derived.Test.YtlcflpanellbfaaGreatDoorL103
import Derived.Test.YtlcflpanellbfaaGreatDoorL39
set_option linter.all false
set_option maxRecDepth 100000
namespace Go.Proofs.YtlcflpanellbfaaGreatDoor.L
open Go.Proofs.YtlcflpanellbfaaGreatDoor.M Go.Proofs.YtlcflpanellbfaaGreatDoor.F Go.Proofs

theorem mrLL_T : ∀ {p : List (List UInt8)}, mrLL (p.map encT) = 0 := fun {p} => mr_S p
theorem szOK_T {p : List (List UInt8)} : szOK 1 (p.map encT) = true := szOK_S p
attribute [go_sem] mrLL_T szOK_T
/-! ### flags, what is left -/
def numF (b : Bool) : List UInt8 := num (if b = true then 1 else 0)
theorem pflag_run {p : Nat} {v : Bool} {l : List UInt8} {h : AH} (hp : h[p]? = some (Pn l)) (hl : l.length + 9 ≤ 100000000000) :
    run T 75 [.box p 0, .bool v] h = some (.tup [], h.set p (Pn (l ++ numF v))) := by
  rw [run_code T_75]
  cases v with
  | true =>
    have h1 := pnum_run hp (n := 1) (by omega) hl
    simp only [show ((1 : Nat) : Int) = 1 from rfl] at h1
    simp -implicitDefEqProofs (disch := (refine id_ok ?_; first | assumption | omega | (simp only [go_sem, List.size_toArray, List.length_map, List.length_append, List.length_take, List.length_drop, List.length_cons, List.length_nil, mrLL_app, keyD_i, keyD_s, keyD_b, Nat.reduceAdd, Nat.reduceEqDiff, Nat.reduceLeDiff] <;> omega) | with_unfolding_all rfl | decide)) only [go_sem, Nat.reduceAdd, Nat.reduceSub, Nat.reduceMul, Nat.reduceLeDiff, Nat.reduceEqDiff, Nat.reduceBEq, reduceIte, reduceCtorEq, c_tape_Pen_Flag, h1, numF]
  | false =>
    have h1 := pnum_run hp (n := 0) (by omega) hl
    simp only [show ((0 : Nat) : Int) = 0 from rfl] at h1
    simp -implicitDefEqProofs (disch := (refine id_ok ?_; first | assumption | omega | (simp only [go_sem, List.size_toArray, List.length_map, List.length_append, List.length_take, List.length_drop, List.length_cons, List.length_nil, mrLL_app, keyD_i, keyD_s, keyD_b, Nat.reduceAdd, Nat.reduceEqDiff, Nat.reduceLeDiff] <;> omega) | with_unfolding_all rfl | decide)) only [go_sem, Nat.reduceAdd, Nat.reduceSub, Nat.reduceMul, Nat.reduceLeDiff, Nat.reduceEqDiff, Nat.reduceBEq, reduceIte, reduceCtorEq, c_tape_Pen_Flag, h1, numF, Bool.false_eq_true]
theorem tflag_run {t : Nat} {s : TS} {h : AH} (ht : h[t]? = some (Tb s)) (hb : s.1.length ≤ 9223372036854775806) :
    run T 83 [.box t 0] h = some (.bool ((((tapN 1 s).1 : Nat) : Int) == 1), h.set t (Tb (tapN 1 s).2)) := by
  have h1 := tnum_run (g := 1) ht hb
  simp only [show ((1 : Nat) : Int) = 1 from rfl] at h1
  rw [run_code T_83]
  simp -implicitDefEqProofs (disch := (refine id_ok ?_; first | assumption | omega | (simp only [go_sem, List.size_toArray, List.length_map, List.length_append, List.length_take, List.length_drop, List.length_cons, List.length_nil, mrLL_app, keyD_i, keyD_s, keyD_b, Nat.reduceAdd, Nat.reduceEqDiff, Nat.reduceLeDiff] <;> omega) | with_unfolding_all rfl | decide)) only [go_sem, Nat.reduceAdd, Nat.reduceSub, Nat.reduceMul, Nat.reduceLeDiff, Nat.reduceEqDiff, Nat.reduceBEq, reduceIte, reduceCtorEq, c_tape_Tape_Flag, h1]
theorem tleft_run {t : Nat} {s : TS} {h : AH} (ht : h[t]? = some (Tb s)) :
    run T 53 [.box t 0] h = some (.int .i64 (s.1.length : Nat), h) := by
  rw [run_code T_53]
  simp only [Tb, Tp] at ht
  simp -implicitDefEqProofs (disch := (refine id_ok ?_; first | assumption | omega | (simp only [go_sem, List.size_toArray, List.length_map, List.length_append, List.length_take, List.length_drop, List.length_cons, List.length_nil, mrLL_app, keyD_i, keyD_s, keyD_b, Nat.reduceAdd, Nat.reduceEqDiff, Nat.reduceLeDiff] <;> omega) | with_unfolding_all rfl | decide)) only [go_sem, Nat.reduceAdd, Nat.reduceSub, Nat.reduceMul, Nat.reduceLeDiff, Nat.reduceEqDiff, Nat.reduceBEq, reduceIte, reduceCtorEq, c_tape_Tape_Left, ht, List.length_map]
/-! ### names compared -/
theorem eqS_loop {a b : List (List UInt8)} {h : AH} (hl : a.length = b.length) (hs : a.length ≤ 1000000000) : ∀ (d i : Nat), d + i = a.length →
    (decide (a.drop i = b.drop i) = true ∧ den T (.loop l_slices_Equal_string_string_0) (s_slices_Equal_string_string_0 (.sl .sh (a.map encT)) (.sl .sh (b.map encT)) (.int .i64 a.length) (.int .i64 i)) h = some (.exit 0, x_slices_Equal_string_string_0, h)) ∨
    (decide (a.drop i = b.drop i) = false ∧ ∃ σ, den T (.loop l_slices_Equal_string_string_0) (s_slices_Equal_string_string_0 (.sl .sh (a.map encT)) (.sl .sh (b.map encT)) (.int .i64 a.length) (.int .i64 i)) h = some (.ret, σ, h) ∧ σ.getD 4 undefA = .bool false) := by
  intro d
  induction d with
  | zero =>
    intro i hd
    have hd' : decide ((i : Int) < a.length) = false := decide_eq_false (by omega)
    refine .inl ⟨by rw [List.drop_eq_nil_of_le (by omega), List.drop_eq_nil_of_le (by omega)]; rfl, ?_⟩
    rw [lp_round]
    simp -implicitDefEqProofs (disch := (refine id_ok ?_; first | assumption | omega | (simp only [go_sem, List.size_toArray, List.length_map, List.length_append, List.length_take, List.length_drop, List.length_cons, List.length_nil, mrLL_app, keyD_i, keyD_s, keyD_b, Nat.reduceAdd, Nat.reduceEqDiff, Nat.reduceLeDiff] <;> omega) | with_unfolding_all rfl | decide)) only [go_sem, Nat.reduceAdd, Nat.reduceSub, Nat.reduceMul, Nat.reduceLeDiff, Nat.reduceEqDiff, Nat.reduceBEq, reduceIte, reduceCtorEq, hd']
  | succ d ih =>
    intro i hd
    have hia : i < a.length := by omega
    have hib : i < b.length := by omega
    have hd' : decide ((i : Int) < a.length) = true := decide_eq_true (by omega)
    have ga : (a.map encT)[(i : Int).toNat]? = some (encT a[i]) := by simp [hia]
    have gb : (b.map encT)[(i : Int).toNat]? = some (encT b[i]) := by simp [hib]
    have e7 := incP (n := i) (by omega)
    have ih' := ih (i + 1) (by omega)
    have hdr := drop_decI hia hib
    generalize a[i] = x at *
    generalize b[i] = y at *
    rw [hdr]
    simp only [encT] at ga gb
    by_cases hxy : x = y
    · have hx : decide (x = y) = true := decide_eq_true hxy
      have hq : (x == y) = true := by simp [hxy]
      have hstep : den T (.loop l_slices_Equal_string_string_0) (s_slices_Equal_string_string_0 (.sl .sh (a.map encT)) (.sl .sh (b.map encT)) (.int .i64 a.length) (.int .i64 i)) h = den T (.loop l_slices_Equal_string_string_0) (s_slices_Equal_string_string_0 (.sl .sh (a.map encT)) (.sl .sh (b.map encT)) (.int .i64 a.length) (.int .i64 (i + 1 : Nat))) h := by
        rw [lp_round]
        simp (maxSteps := 2000000) -implicitDefEqProofs (disch := (refine id_ok ?_; first | assumption | omega | (simp only [go_sem, List.size_toArray, List.length_map, List.length_append, List.length_take, List.length_drop, List.length_cons, List.length_nil, mrLL_app, keyD_i, keyD_s, keyD_b, Nat.reduceAdd, Nat.reduceEqDiff, Nat.reduceLeDiff] <;> omega) | with_unfolding_all rfl | decide)) only [go_sem, Nat.reduceAdd, Nat.reduceSub, Nat.reduceMul, Nat.reduceLeDiff, Nat.reduceEqDiff, Nat.reduceBEq, reduceIte, reduceCtorEq, hd', ga, gb, hq, Bool.not_true, Bool.not_false, e7]
        try rfl
      rw [hstep, hx, Bool.true_and]
      exact ih'
    · have hx : decide (x = y) = false := decide_eq_false hxy
      have hq : (x == y) = false := by simp [hxy]
      refine .inr ⟨by rw [hx, Bool.false_and], ?_⟩
      rw [lp_round]
      simp (maxSteps := 2000000) -implicitDefEqProofs (disch := (refine id_ok ?_; first | assumption | omega | (simp only [go_sem, List.size_toArray, List.length_map, List.length_append, List.length_take, List.length_drop, List.length_cons, List.length_nil, mrLL_app, keyD_i, keyD_s, keyD_b, Nat.reduceAdd, Nat.reduceEqDiff, Nat.reduceLeDiff] <;> omega) | with_unfolding_all rfl | decide)) only [go_sem, Nat.reduceAdd, Nat.reduceSub, Nat.reduceMul, Nat.reduceLeDiff, Nat.reduceEqDiff, Nat.reduceBEq, reduceIte, reduceCtorEq, hd', ga, gb, hq, Bool.not_true, Bool.not_false]
      exact ⟨_, rfl, rfl⟩
theorem eqS_run {a b : List (List UInt8)} {h : AH} (ha : a.length ≤ 1000000000) : run T 51 [.sl .sh (a.map encT), .sl .sh (b.map encT)] h = some (.bool (decide (a = b)), h) := by
  rw [run_code T_51]
  by_cases hl : a.length = b.length
  · have hq : ((a.length : Int) != (b.length : Int)) = false := by simp [hl]
    rcases eqS_loop (h := h) hl ha a.length 0 (by omega) with ⟨h1, h2⟩ | ⟨h1, σ, h2, h3⟩
    · simp only [show ((0 : Nat) : Int) = 0 from rfl, List.drop_zero] at h1 h2
      simp (maxSteps := 2000000) -implicitDefEqProofs (disch := (refine id_ok ?_; first | assumption | omega | (simp only [go_sem, List.size_toArray, List.length_map, List.length_append, List.length_take, List.length_drop, List.length_cons, List.length_nil, mrLL_app, keyD_i, keyD_s, keyD_b, Nat.reduceAdd, Nat.reduceEqDiff, Nat.reduceLeDiff] <;> omega) | with_unfolding_all rfl | decide)) only [go_sem, Nat.reduceAdd, Nat.reduceSub, Nat.reduceMul, Nat.reduceLeDiff, Nat.reduceEqDiff, Nat.reduceBEq, reduceIte, reduceCtorEq, c_slices_Equal_string_string, List.length_map, hq, h2, h1]
    · simp only [show ((0 : Nat) : Int) = 0 from rfl, List.drop_zero] at h1 h2
      simp (maxSteps := 2000000) -implicitDefEqProofs (disch := (refine id_ok ?_; first | assumption | omega | (simp only [go_sem, List.size_toArray, List.length_map, List.length_append, List.length_take, List.length_drop, List.length_cons, List.length_nil, mrLL_app, keyD_i, keyD_s, keyD_b, Nat.reduceAdd, Nat.reduceEqDiff, Nat.reduceLeDiff] <;> omega) | with_unfolding_all rfl | decide)) only [go_sem, Nat.reduceAdd, Nat.reduceSub, Nat.reduceMul, Nat.reduceLeDiff, Nat.reduceEqDiff, Nat.reduceBEq, reduceIte, reduceCtorEq, c_slices_Equal_string_string, List.length_map, hq, h2, h1, h3]
  · have hq : ((a.length : Int) != (b.length : Int)) = true := by simp; omega
    have hne : decide (a = b) = false := decide_eq_false fun e => hl (by rw [e])
    simp (maxSteps := 2000000) -implicitDefEqProofs (disch := (refine id_ok ?_; first | assumption | omega | (simp only [go_sem, List.size_toArray, List.length_map, List.length_append, List.length_take, List.length_drop, List.length_cons, List.length_nil, mrLL_app, keyD_i, keyD_s, keyD_b, Nat.reduceAdd, Nat.reduceEqDiff, Nat.reduceLeDiff] <;> omega) | with_unfolding_all rfl | decide)) only [go_sem, Nat.reduceAdd, Nat.reduceSub, Nat.reduceMul, Nat.reduceLeDiff, Nat.reduceEqDiff, Nat.reduceBEq, reduceIte, reduceCtorEq, c_slices_Equal_string_string, List.length_map, hq, hne]
/-! ### ownerships -/
def rigO (l : List (List UInt8)) : Bool := decide (l.length ≤ 8) && decide (srtC l = l)
theorem srtC_rig {l : List (List UInt8)} {s : List UInt8} (h : s ∈ srtC l) : rigC s = true ∧ s ∈ l := by
  have := (srt_mem ltC (l.filter rigC) s).1 (cmpt_mem h)
  exact ⟨(List.mem_filter.1 this).2, (List.mem_filter.1 this).1⟩
theorem rigO_all {l : List (List UInt8)} (h : rigO l = true) : l.length ≤ 8 ∧ ∀ s ∈ l, rigC s = true ∧ s.length ≤ 60 := by
  simp only [rigO, Bool.and_eq_true, decide_eq_true_eq] at h
  refine ⟨h.1, fun s hs => ?_⟩
  have : rigC s = true := (srtC_rig (by rw [h.2]; exact hs)).1
  exact ⟨this, rigC_len this⟩
theorem rigO_run {l : List (List UInt8)} {h : AH} (hs : shS l) : run U 69 [.sl .sh (l.map encT)] h = some (.bool (rigO l), h) := by
  rw [run_code (show U 69 = some (.code c_owns_Right) from rfl)]
  unfold rigO
  by_cases h8 : l.length ≤ 8
  · have e1 : decide ((l.length : Int) ≤ 8) = true := decide_eq_true (by omega)
    have e2 : decide (l.length ≤ 8) = true := decide_eq_true h8
    have h1 := sort_runU (m := .sh) (h := []) h8 hs
    have h2 := upU (eqS_run (a := srtC l) (b := l) (h := []) (by
      have h1 : (srtC l).length ≤ l.length := by
        have a1 : ∀ l : List (List UInt8), (cmpt l).length ≤ l.length := by
          intro l
          induction l with
          | nil => simp [cmpt]
          | cons x r ih =>
            cases r with
            | nil => simp [cmpt]
            | cons y r =>
              simp only [cmpt]
              split
              · exact Nat.le_trans ih (by simp)
              · simp only [List.length_cons] at ih ⊢; omega
        have a2 := a1 (srtV ltC (l.filter rigC))
        rw [srtV_len] at a2
        exact Nat.le_trans a2 (List.length_filter_le ..)
      omega))
    simp only [srtR] at h1
    simp (maxSteps := 2000000) -implicitDefEqProofs (disch := (refine id_ok ?_; first | assumption | omega | (simp only [go_sem, List.size_toArray, List.length_map, List.length_append, List.length_take, List.length_drop, List.length_cons, List.length_nil, mrLL_app, keyD_i, keyD_s, keyD_b, Nat.reduceAdd, Nat.reduceEqDiff, Nat.reduceLeDiff] <;> omega) | with_unfolding_all rfl | decide)) only [go_sem, Nat.reduceAdd, Nat.reduceSub, Nat.reduceMul, Nat.reduceLeDiff, Nat.reduceEqDiff, Nat.reduceBEq, reduceIte, reduceCtorEq, c_owns_Right, List.length_map, e1, e2, h1, h2]
  · have e1 : decide ((l.length : Int) ≤ 8) = false := decide_eq_false (by omega)
    have e2 : decide (l.length ≤ 8) = false := decide_eq_false h8
    simp (maxSteps := 2000000) -implicitDefEqProofs (disch := (refine id_ok ?_; first | assumption | omega | (simp only [go_sem, List.size_toArray, List.length_map, List.length_append, List.length_take, List.length_drop, List.length_cons, List.length_nil, mrLL_app, keyD_i, keyD_s, keyD_b, Nat.reduceAdd, Nat.reduceEqDiff, Nat.reduceLeDiff] <;> omega) | with_unfolding_all rfl | decide)) only [go_sem, Nat.reduceAdd, Nat.reduceSub, Nat.reduceMul, Nat.reduceLeDiff, Nat.reduceEqDiff, Nat.reduceBEq, reduceIte, reduceCtorEq, c_owns_Right, List.length_map, e1, e2, Bool.false_and]
def enS1 (c : List UInt8) : List UInt8 := num c.length ++ c
def bytO (l : List (List UInt8)) : List UInt8 := num l.length ++ l.flatMap enS1
theorem oput_loop {p : Nat} {l : List (List UInt8)} {h : AH} (hp : p < h.length) (hl : l.length ≤ 1000) (hc : ∀ s ∈ l, s.length ≤ 60) : ∀ (d i : Nat) (b : List UInt8), d + i = l.length → b.length ≤ 100 * i + 10000 →
    den T (.loop l_owns_Put_0) (s_owns_Put_0 (.box p 0) (.sl .sh (l.map encT)) (.int .i64 l.length) (.int .i64 i)) (h.set p (Pn b)) = some (.exit 0, x_owns_Put_0, h.set p (Pn (b ++ (l.drop i).flatMap enS1))) := by
  intro d
  induction d with
  | zero =>
    intro i b hd hb
    have hd' : decide ((i : Int) < l.length) = false := decide_eq_false (by omega)
    rw [List.drop_eq_nil_of_le (by omega), List.flatMap_nil, List.append_nil]
    rw [lp_round]
    simp -implicitDefEqProofs (disch := (refine id_ok ?_; first | assumption | omega | (simp only [go_sem, List.size_toArray, List.length_map, List.length_append, List.length_take, List.length_drop, List.length_cons, List.length_nil, mrLL_app, keyD_i, keyD_s, keyD_b, Nat.reduceAdd, Nat.reduceEqDiff, Nat.reduceLeDiff] <;> omega) | with_unfolding_all rfl | decide)) only [go_sem, Nat.reduceAdd, Nat.reduceSub, Nat.reduceMul, Nat.reduceLeDiff, Nat.reduceEqDiff, Nat.reduceBEq, reduceIte, reduceCtorEq, hd']
  | succ d ih =>
    intro i b hd hb
    have hib : i < l.length := by omega
    have hd' : decide ((i : Int) < l.length) = true := decide_eq_true (by omega)
    have hge : (l.map encT)[(i : Int).toNat]? = some (encT l[i]) := by simp [hib]
    have hdr : l.drop i = l[i] :: l.drop (i + 1) := List.drop_eq_getElem_cons hib
    have e7 := incP (n := i) (by omega)
    have h60 := hc l[i] (by simp)
    have h9 := num_len (n := l[i].length) (by omega)
    rw [hdr, List.flatMap_cons, ← List.append_assoc]
    have ih' := ih (i + 1) (b ++ enS1 l[i]) (by omega) (by simp only [enS1, List.length_append]; omega)
    generalize l[i] = x at *
    have h1 := ptext_run (s := x) (show (h.set p (Pn b))[p]? = some (Pn b) from List.getElem?_set_self hp) (by omega)
    rw [List.set_set, List.append_assoc, show num x.length ++ x = enS1 x from rfl] at h1
    simp only [encT] at hge
    rw [lp_round]
    rw [List.append_assoc] at ih'
    simp (maxSteps := 2000000) -implicitDefEqProofs (disch := (refine id_ok ?_; first | assumption | omega | (simp only [go_sem, List.size_toArray, List.length_map, List.length_append, List.length_take, List.length_drop, List.length_cons, List.length_nil, mrLL_app, keyD_i, keyD_s, keyD_b, Nat.reduceAdd, Nat.reduceEqDiff, Nat.reduceLeDiff] <;> omega) | with_unfolding_all rfl | decide)) only [go_sem, Nat.reduceAdd, Nat.reduceSub, Nat.reduceMul, Nat.reduceLeDiff, Nat.reduceEqDiff, Nat.reduceBEq, reduceIte, reduceCtorEq, hd', hge, h1, e7]
    exact ih'
theorem oput_run {p : Nat} {l : List (List UInt8)} {b : List UInt8} {h : AH} (hp : h[p]? = some (Pn b)) (hl : l.length ≤ 8) (hc : ∀ s ∈ l, s.length ≤ 60) (hb : b.length ≤ 9000) :
    run T 73 [.box p 0, .sl .sh (l.map encT)] h = some (.tup [], h.set p (Pn (b ++ bytO l))) := by
  have hlt : p < h.length := (List.getElem?_eq_some_iff.1 hp).1
  have h9 := num_len (n := l.length) (by omega)
  have h1 := pnum_run hp (n := l.length) (by omega) (by omega)
  have h2 := oput_loop (h := h) hlt (by omega) hc l.length 0 (b ++ num l.length) (by omega) (by rw [List.length_append]; omega)
  simp only [show ((0 : Nat) : Int) = 0 from rfl, List.drop_zero] at h2
  rw [run_code T_73]
  unfold bytO
  rw [← List.append_assoc]
  simp (maxSteps := 2000000) -implicitDefEqProofs (disch := (refine id_ok ?_; first | assumption | omega | (simp only [go_sem, List.size_toArray, List.length_map, List.length_append, List.length_take, List.length_drop, List.length_cons, List.length_nil, mrLL_app, keyD_i, keyD_s, keyD_b, Nat.reduceAdd, Nat.reduceEqDiff, Nat.reduceLeDiff] <;> omega) | with_unfolding_all rfl | decide)) only [go_sem, Nat.reduceAdd, Nat.reduceSub, Nat.reduceMul, Nat.reduceLeDiff, Nat.reduceEqDiff, Nat.reduceBEq, reduceIte, reduceCtorEq, c_owns_Put, List.length_map, h1, h2]
/-- Names read. -/
def getSs : Nat → TS → List (List UInt8) × TS
  | 0, s => ([], s)
  | k + 1, s => ((tapT 80 s).1 :: (getSs k (tapT 80 s).2).1, (getSs k (tapT 80 s).2).2)
theorem getSs_len : ∀ (k : Nat) (s : TS), (getSs k s).2.1.length ≤ s.1.length ∧ ∀ c ∈ (getSs k s).1, c.length ≤ s.1.length
  | 0, s => ⟨Nat.le_refl _, fun c hc => by simp [getSs] at hc⟩
  | k + 1, s => by
    have l1 := tapT_len 80 s
    have l2 := tapT_str 80 s
    obtain ⟨h1, h2⟩ := getSs_len k (tapT 80 s).2
    refine ⟨by simp only [getSs]; omega, fun c hc => ?_⟩
    simp only [getSs, List.mem_cons] at hc
    rcases hc with rfl | hc
    · exact l2
    · have := h2 c hc; omega
theorem oget_loop {t n : Nat} (hn : n ≤ 1000) : ∀ (d i : Nat) (H : AH) (s : TS) (a : List (List UInt8)), d + i = n → H[t]? = some (Tb s) → s.1.length ≤ 9223372036854775806 → a.length ≤ i →
    den T (.loop l_owns_Get_0) (s_owns_Get_0 (.box t 0) (ow (a.map encT)) (.int .i64 n) (.int .i64 i)) H = some (.exit 0, x_owns_Get_0 (.box t 0) (ow ((a ++ (getSs d s).1).map encT)), H.set t (Tb (getSs d s).2)) := by
  intro d
  induction d with
  | zero =>
    intro i H s a hd ht hs ha
    have hd' : decide ((i : Int) < n) = false := decide_eq_false (by omega)
    simp only [getSs, List.append_nil]
    rw [set_same ht]
    rw [lp_round]
    simp -implicitDefEqProofs (disch := (refine id_ok ?_; first | assumption | omega | (simp only [go_sem, List.size_toArray, List.length_map, List.length_append, List.length_take, List.length_drop, List.length_cons, List.length_nil, mrLL_app, keyD_i, keyD_s, keyD_b, Nat.reduceAdd, Nat.reduceEqDiff, Nat.reduceLeDiff] <;> omega) | with_unfolding_all rfl | decide)) only [go_sem, Nat.reduceAdd, Nat.reduceSub, Nat.reduceMul, Nat.reduceLeDiff, Nat.reduceEqDiff, Nat.reduceBEq, reduceIte, reduceCtorEq, hd']
  | succ d ih =>
    intro i H s a hd ht hs ha
    have hlt : t < H.length := (List.getElem?_eq_some_iff.1 ht).1
    have hd' : decide ((i : Int) < n) = true := decide_eq_true (by omega)
    have t1 := ttext_run (g := 80) ht hs
    rw [show ((80 : Nat) : Int) = 80 from rfl] at t1
    have l1 := tapT_len 80 s
    have e7 := incP (n := i) (by omega)
    have ih' := ih (i + 1) (H.set t (Tb (tapT 80 s).2)) (tapT 80 s).2 (a ++ [(tapT 80 s).1]) (by omega) (List.getElem?_set_self hlt) (by omega) (by simp; omega)
    rw [List.set_set] at ih'
    simp only [getSs]
    simp only [List.map_append, List.map_cons, List.map_nil, encT, List.append_assoc, List.singleton_append] at ih' ⊢
    generalize tapT 80 s = x at *
    rw [lp_round]
    simp (maxSteps := 2000000) -implicitDefEqProofs (disch := (refine id_ok ?_; first | assumption | omega | (simp only [go_sem, List.size_toArray, List.length_map, List.length_append, List.length_take, List.length_drop, List.length_cons, List.length_nil, mrLL_app, keyD_i, keyD_s, keyD_b, Nat.reduceAdd, Nat.reduceEqDiff, Nat.reduceLeDiff] <;> omega) | with_unfolding_all rfl | decide)) only [go_sem, Nat.reduceAdd, Nat.reduceSub, Nat.reduceMul, Nat.reduceLeDiff, Nat.reduceEqDiff, Nat.reduceBEq, reduceIte, reduceCtorEq, hd', t1, e7]
    exact ih'
/-- An ownership read. -/
def getO (s : TS) : List (List UInt8) × Int × TS :=
  let q := getSs (tapN 8 s).1 (tapN 8 s).2
  if q.2.2.isSome = false ∧ rigO q.1 = true then (q.1, 0, q.2) else ([], 10, q.2)
theorem oget_run {t : Nat} {s : TS} {h : AH} (ht : h[t]? = some (Tb s)) (hs : s.1.length ≤ 281474976710656) :
    run U 81 [.box t 0] h = some (.tup [ow ((getO s).1.map encT), .int .i64 (getO s).2.1], h.set t (Tb (getO s).2.2)) := by
  have hlt : t < h.length := (List.getElem?_eq_some_iff.1 ht).1
  have t1 := upU (tnum_run (g := 8) ht (by omega))
  rw [show ((8 : Nat) : Int) = 8 from rfl] at t1
  have l1 := tapN_len 8 s
  have l2 := tapN_le 8 s
  have hlp := tle_den tleU _ _ _ _ (oget_loop (t := t) (n := (tapN 8 s).1) (by omega) (tapN 8 s).1 0 (h.set t (Tb (tapN 8 s).2)) (tapN 8 s).2 [] (by omega) (List.getElem?_set_self hlt) (by omega) (by simp))
  rw [List.set_set, List.nil_append] at hlp
  simp only [show ((0 : Nat) : Int) = 0 from rfl, List.map_nil] at hlp
  have hst := (getSs_len (tapN 8 s).1 (tapN 8 s).2).2
  unfold getO
  generalize tapN 8 s = x at *
  generalize getSs x.1 x.2 = q at *
  obtain ⟨a, b, e⟩ := q
  have t2 := upU (terr_run (t := t) (s := (b, e)) (h := h.set t (Tb (b, e))) (List.getElem?_set_self hlt))
  have t3 := rigO_run (l := a) (h := []) (fun c hc => by have := hst c hc; omega)
  rw [run_code (show U 81 = some (.code c_owns_Get) from rfl)]
  simp only at hlp t2 t3 ⊢
  cases e with
  | some c =>
    simp only [Option.isSome_some, Bool.true_eq_false, false_and, if_false, List.map_nil]
    simp (maxSteps := 2000000) -implicitDefEqProofs (disch := (refine id_ok ?_; first | assumption | omega | (simp only [go_sem, List.size_toArray, List.length_map, List.length_append, List.length_take, List.length_drop, List.length_cons, List.length_nil, mrLL_app, keyD_i, keyD_s, keyD_b, Nat.reduceAdd, Nat.reduceEqDiff, Nat.reduceLeDiff] <;> omega) | with_unfolding_all rfl | decide)) only [go_sem, Nat.reduceAdd, Nat.reduceSub, Nat.reduceMul, Nat.reduceLeDiff, Nat.reduceEqDiff, Nat.reduceBEq, reduceIte, reduceCtorEq, c_owns_Get, t1, hlp, t2]
  | none =>
    simp only [Option.isSome_none, true_and]
    cases hr : rigO a with
    | true =>
      rw [hr] at t3
      simp only [if_true]
      simp (maxSteps := 2000000) -implicitDefEqProofs (disch := (refine id_ok ?_; first | assumption | omega | (simp only [go_sem, List.size_toArray, List.length_map, List.length_append, List.length_take, List.length_drop, List.length_cons, List.length_nil, mrLL_app, keyD_i, keyD_s, keyD_b, Nat.reduceAdd, Nat.reduceEqDiff, Nat.reduceLeDiff] <;> omega) | with_unfolding_all rfl | decide)) only [go_sem, Nat.reduceAdd, Nat.reduceSub, Nat.reduceMul, Nat.reduceLeDiff, Nat.reduceEqDiff, Nat.reduceBEq, reduceIte, reduceCtorEq, c_owns_Get, t1, hlp, t2, t3]
    | false =>
      rw [hr] at t3
      simp only [Bool.false_eq_true, if_false, List.map_nil]
      simp (maxSteps := 2000000) -implicitDefEqProofs (disch := (refine id_ok ?_; first | assumption | omega | (simp only [go_sem, List.size_toArray, List.length_map, List.length_append, List.length_take, List.length_drop, List.length_cons, List.length_nil, mrLL_app, keyD_i, keyD_s, keyD_b, Nat.reduceAdd, Nat.reduceEqDiff, Nat.reduceLeDiff] <;> omega) | with_unfolding_all rfl | decide)) only [go_sem, Nat.reduceAdd, Nat.reduceSub, Nat.reduceMul, Nat.reduceLeDiff, Nat.reduceEqDiff, Nat.reduceBEq, reduceIte, reduceCtorEq, c_owns_Get, t1, hlp, t2, t3]
/-! ### what was put is got; what was got is what was put -/
theorem getSs_put : ∀ (l : List (List UInt8)) (rest : List UInt8), (∀ s ∈ l, s.length ≤ 60) → getSs l.length (l.flatMap enS1 ++ rest, none) = (l, rest, none)
  | [], rest, _ => rfl
  | c :: l, rest, h => by
    have hc := h c (by simp)
    rw [List.length_cons, List.flatMap_cons, List.append_assoc, getSs]
    have h1 : tapT 80 (enS1 c ++ (l.flatMap enS1 ++ rest), none) = (c, l.flatMap enS1 ++ rest, none) := by
      unfold enS1; rw [List.append_assoc]; exact tapT_txt (by omega) (by omega)
    rw [h1]
    simp only
    rw [getSs_put l rest fun s hs => h s (by simp [hs])]
theorem getO_put {l : List (List UInt8)} (h : rigO l = true) (rest : List UInt8) : getO (bytO l ++ rest, none) = (l, 0, rest, none) := by
  obtain ⟨h8, hc⟩ := rigO_all h
  have h1 : tapN 8 (bytO l ++ rest, none) = (l.length, l.flatMap enS1 ++ rest, none) := by
    unfold bytO; rw [List.append_assoc]; exact tapN_num h8 (by omega)
  unfold getO
  rw [h1]
  simp only
  rw [getSs_put l rest fun s hs => (hc s hs).2]
  simp [h]
theorem getSs_none : ∀ (k : Nat) {s : TS}, (getSs k s).2.2 = none → s.2 = none
  | 0, s, h => h
  | k + 1, s, h => tapT_none (getSs_none k h)
theorem getSs_inv : ∀ (k : Nat) {s : TS}, (getSs k s).2.2 = none → s.1 = (getSs k s).1.flatMap enS1 ++ (getSs k s).2.1 ∧ (getSs k s).1.length = k
  | 0, s, h => ⟨rfl, rfl⟩
  | k + 1, s, h => by
    simp only [getSs] at h ⊢
    obtain ⟨h1, h2⟩ := getSs_inv k h
    have h3 := tapT_inv (getSs_none k h)
    refine ⟨?_, by rw [List.length_cons, h2]⟩
    rw [List.flatMap_cons, List.append_assoc, ← h1, enS1, List.append_assoc, ← h3]
end Go.Proofs.YtlcflpanellbfaaGreatDoor.L
