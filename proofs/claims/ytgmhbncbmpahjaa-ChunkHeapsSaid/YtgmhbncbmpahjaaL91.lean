/- The document's heaps: what misses, what is next, the bytes, a put. -/
import Derived.Test.YtgmhbncbmpahjaaL90
import Derived.Test.YtgmhbncbmpahjaaM24
set_option linter.all false
set_option maxRecDepth 100000
namespace Go.Proofs.Ytgmhbncbmpahjaa.L
open Go.Proofs.Ytgmhbncbmpahjaa.M Go.Proofs.Ytgmhbncbmpahjaa.F Go.Proofs

def HS (hs : List Bool) : Bx := .cells (hs.map AV.bool)
def encS (p : List UInt8) : AV := .str ⟨p.toArray⟩
def PS (ps : List (List UInt8)) : Bx := .cells (ps.map encS)
def RH (l s d : Int) (a b n : Nat) : Bx := .cells [.int .i64 l, .int .i64 s, .int .i64 d, .bs a 0 n (some n), .bs b 0 n (some n)]
structure RefAt (h : AH) (q a b : Nat) (l s d : Int) (hs : List Bool) (ps : List (List UInt8)) (n : Nat) : Prop where
  hq : h[q]? = some (.cells [.int .i64 l, .int .i64 s, .int .i64 d, .bs a 0 n (some n), .bs b 0 n (some n)])
  ha : h[a]? = some (.cells (hs.map AV.bool))
  hb : h[b]? = some (.cells (ps.map encS))
  hl : hs.length = n
  pl : ps.length = n
theorem inc91 {n : Nat} (h : n ≤ 9223372036854775806) : IntKind.i64.wrap ((n : Int) + 1) = ((n + 1 : Nat) : Int) := by rw [w64 (by omega) (by omega)]; rfl
theorem ix91 {i : Nat} : 0 + ((i : Int)).toNat * 1 = i := by rw [Int.toNat_natCast]; omega
theorem rm_loop {h : AH} {a n : Nat} {hs : List Bool} (ha : h[a]? = some (.cells (hs.map AV.bool))) (hl : hs.length = n) (hn : n ≤ 1000000) : ∀ (d i m : Nat), d + i = n → m ≤ i →
    den T (.loop l_regencyref19_Heap_Missing_0) (s_regencyref19_Heap_Missing_0 (.int .i64 m) (.bs a 0 n (some n)) (.int .i64 n) (.int .i64 i)) h = some (.exit 0, x_regencyref19_Heap_Missing_0 (.int .i64 ((m + (hs.drop i).count false : Nat) : Int)), h) := by
  intro d
  induction d with
  | zero =>
    intro i m hd hm
    have hd' : decide ((i : Int) < n) = false := decide_eq_false (by omega)
    rw [List.drop_eq_nil_of_le (by omega), List.count_nil, Nat.add_zero]
    rw [lp_round]
    simp -implicitDefEqProofs (disch := (refine id_ok ?_; first | assumption | omega | (simp only [go_sem, List.size_toArray, List.length_map, List.length_append, List.length_take, List.length_drop, List.length_cons, List.length_nil, mrLL_app, keyD_i, keyD_s, keyD_b, Nat.reduceAdd, Nat.reduceEqDiff, Nat.reduceLeDiff] <;> omega) | with_unfolding_all rfl | decide)) only [go_sem, Nat.reduceAdd, Nat.reduceSub, Nat.reduceMul, Nat.reduceLeDiff, Nat.reduceEqDiff, Nat.reduceBEq, reduceIte, reduceCtorEq, hd']
  | succ d ih =>
    intro i m hd hm
    have hib : i < hs.length := by omega
    have hd' : decide ((i : Int) < n) = true := decide_eq_true (by omega)
    have hge : (hs.map AV.bool)[i]? = some (.bool hs[i]) := by simp [hib]
    have hdr : hs.drop i = hs[i] :: hs.drop (i + 1) := List.drop_eq_getElem_cons hib
    have e7 := inc91 (n := i) (by omega)
    have e8 := inc91 (n := m) (by omega)
    rw [hdr]
    generalize hs[i] = b at *
    cases b with
    | true =>
      have ih' := ih (i + 1) m (by omega) (by omega)
      rw [List.count_cons_of_ne (by simp)]
      rw [lp_round]
      simp (maxSteps := 2000000) -implicitDefEqProofs (disch := (refine id_ok ?_; first | assumption | omega | (simp only [go_sem, List.size_toArray, List.length_map, List.length_append, List.length_take, List.length_drop, List.length_cons, List.length_nil, mrLL_app, keyD_i, keyD_s, keyD_b, Nat.reduceAdd, Nat.reduceEqDiff, Nat.reduceLeDiff] <;> omega) | with_unfolding_all rfl | decide)) only [go_sem, Nat.reduceAdd, Nat.reduceSub, Nat.reduceMul, Nat.reduceLeDiff, Nat.reduceEqDiff, Nat.reduceBEq, reduceIte, reduceCtorEq, hd', ha, hge, ix91, e7]
      exact ih'
    | false =>
      have ih' := ih (i + 1) (m + 1) (by omega) (by omega)
      rw [List.count_cons_self, show m + (List.count false (List.drop (i + 1) hs) + 1) = m + 1 + List.count false (List.drop (i + 1) hs) by omega]
      rw [lp_round]
      simp (maxSteps := 2000000) -implicitDefEqProofs (disch := (refine id_ok ?_; first | assumption | omega | (simp only [go_sem, List.size_toArray, List.length_map, List.length_append, List.length_take, List.length_drop, List.length_cons, List.length_nil, mrLL_app, keyD_i, keyD_s, keyD_b, Nat.reduceAdd, Nat.reduceEqDiff, Nat.reduceLeDiff] <;> omega) | with_unfolding_all rfl | decide)) only [go_sem, Nat.reduceAdd, Nat.reduceSub, Nat.reduceMul, Nat.reduceLeDiff, Nat.reduceEqDiff, Nat.reduceBEq, reduceIte, reduceCtorEq, hd', ha, hge, ix91, e7, e8]
      exact ih'
theorem rmiss_run {h : AH} {q a b n : Nat} {l s d : Int} {hs : List Bool} {ps : List (List UInt8)} (hh : RefAt h q a b l s d hs ps n) (hn : n ≤ 1000000) : run T 15 [.box q 0] h = some (.int .i64 ((hs.count false : Nat) : Int), h) := by
  obtain ⟨hq, ha, hb, hl, pl⟩ := hh
  have h1 := rm_loop ha hl hn n 0 0 (by omega) (by omega)
  rw [List.drop_zero, Nat.zero_add] at h1
  simp only [show ((0 : Nat) : Int) = 0 from rfl] at h1
  rw [run_code T_15]
  simp (maxSteps := 2000000) -implicitDefEqProofs (disch := (refine id_ok ?_; first | assumption | omega | (simp only [go_sem, List.size_toArray, List.length_map, List.length_append, List.length_take, List.length_drop, List.length_cons, List.length_nil, mrLL_app, keyD_i, keyD_s, keyD_b, Nat.reduceAdd, Nat.reduceEqDiff, Nat.reduceLeDiff] <;> omega) | with_unfolding_all rfl | decide)) only [go_sem, Nat.reduceAdd, Nat.reduceSub, Nat.reduceMul, Nat.reduceLeDiff, Nat.reduceEqDiff, Nat.reduceBEq, reduceIte, reduceCtorEq, c_regencyref19_Heap_Missing, hq, h1]
theorem gc_set2 {h : AH} {a b : Nat} {X Y : Bx} {r : AV} : gc h r ((h.set a X).set b Y) = some (r, (h.set a X).set b Y) := by
  unfold gc
  rw [if_pos (.inl (by simp))]
theorem ovl1 {α : Type} {l : List α} {i : Nat} {x : α} (h : i < l.length) : l.take i ++ x :: l.drop (i + 1) = l.set i x := by
  rw [List.set_eq_take_append_cons_drop, if_pos h]
/-! ### next -/
theorem rn0_loop {h : AH} {q a b n : Nat} {l s d j : Int} {hs : List Bool} {ps : List (List UInt8)} (hh : RefAt h q a b l s d hs ps n) (hn : n ≤ 1000000) : ∀ (dd i : Nat), dd + i = n →
    (ff (hs.drop (max i j.toNat)) (max i j.toNat) = -1 ∧ den T (.loop l_regencyref19_Heap_Next_0) (s_regencyref19_Heap_Next_0 (.box q 0) (.int .i64 j) (.int .i64 n) (.int .i64 i)) h = some (.exit 0, x_regencyref19_Heap_Next_0 (.box q 0), h)) ∨
    (ff (hs.drop (max i j.toNat)) (max i j.toNat) ≠ -1 ∧ ∃ σ, den T (.loop l_regencyref19_Heap_Next_0) (s_regencyref19_Heap_Next_0 (.box q 0) (.int .i64 j) (.int .i64 n) (.int .i64 i)) h = some (.ret, σ, h) ∧ σ.getD 4 undefA = .int .i64 (ff (hs.drop (max i j.toNat)) (max i j.toNat))) := by
  obtain ⟨hq, ha, hb, hl, pl⟩ := hh
  intro dd
  induction dd with
  | zero =>
    intro i hd
    have hd' : decide ((i : Int) < n) = false := decide_eq_false (by omega)
    refine .inl ⟨by rw [List.drop_eq_nil_of_le (by omega)]; rfl, ?_⟩
    rw [lp_round]
    simp -implicitDefEqProofs (disch := (refine id_ok ?_; first | assumption | omega | (simp only [go_sem, List.size_toArray, List.length_map, List.length_append, List.length_take, List.length_drop, List.length_cons, List.length_nil, mrLL_app, keyD_i, keyD_s, keyD_b, Nat.reduceAdd, Nat.reduceEqDiff, Nat.reduceLeDiff] <;> omega) | with_unfolding_all rfl | decide)) only [go_sem, Nat.reduceAdd, Nat.reduceSub, Nat.reduceMul, Nat.reduceLeDiff, Nat.reduceEqDiff, Nat.reduceBEq, reduceIte, reduceCtorEq, hd']
  | succ dd ih =>
    intro i hd
    have hib : i < hs.length := by omega
    have hd' : decide ((i : Int) < n) = true := decide_eq_true (by omega)
    have hge : (hs.map AV.bool)[i]? = some (.bool hs[i]) := by simp [hib]
    have hdr : hs.drop i = hs[i] :: hs.drop (i + 1) := List.drop_eq_getElem_cons hib
    have e7 := inc91 (n := i) (by omega)
    have ih' := ih (i + 1) (by omega)
    by_cases hj : j ≤ (i : Int)
    · have d1 : decide ((i : Int) ≥ j) = true := decide_eq_true hj
      rw [show max i j.toNat = i by omega]
      rw [show max (i + 1) j.toNat = i + 1 by omega] at ih'
      rw [hdr]
      generalize hs[i] = x at *
      cases x with
      | false =>
        rw [ff_f]
        refine .inr ⟨by omega, ?_⟩
        rw [lp_round]
        simp (maxSteps := 2000000) -implicitDefEqProofs (disch := (refine id_ok ?_; first | assumption | omega | (simp only [go_sem, List.size_toArray, List.length_map, List.length_append, List.length_take, List.length_drop, List.length_cons, List.length_nil, mrLL_app, keyD_i, keyD_s, keyD_b, Nat.reduceAdd, Nat.reduceEqDiff, Nat.reduceLeDiff] <;> omega) | with_unfolding_all rfl | decide)) only [go_sem, Nat.reduceAdd, Nat.reduceSub, Nat.reduceMul, Nat.reduceLeDiff, Nat.reduceEqDiff, Nat.reduceBEq, reduceIte, reduceCtorEq, hd', hq, ha, hge, ix91, d1]
        exact ⟨_, rfl, rfl⟩
      | true =>
        rw [ff_t]
        have hstep : den T (.loop l_regencyref19_Heap_Next_0) (s_regencyref19_Heap_Next_0 (.box q 0) (.int .i64 j) (.int .i64 n) (.int .i64 i)) h = den T (.loop l_regencyref19_Heap_Next_0) (s_regencyref19_Heap_Next_0 (.box q 0) (.int .i64 j) (.int .i64 n) (.int .i64 (i + 1 : Nat))) h := by
          rw [lp_round]
          simp (maxSteps := 2000000) -implicitDefEqProofs (disch := (refine id_ok ?_; first | assumption | omega | (simp only [go_sem, List.size_toArray, List.length_map, List.length_append, List.length_take, List.length_drop, List.length_cons, List.length_nil, mrLL_app, keyD_i, keyD_s, keyD_b, Nat.reduceAdd, Nat.reduceEqDiff, Nat.reduceLeDiff] <;> omega) | with_unfolding_all rfl | decide)) only [go_sem, Nat.reduceAdd, Nat.reduceSub, Nat.reduceMul, Nat.reduceLeDiff, Nat.reduceEqDiff, Nat.reduceBEq, reduceIte, reduceCtorEq, hd', hq, ha, hge, ix91, d1, e7]
          try rfl
        rw [hstep]
        exact ih'
    · have d1 : decide ((i : Int) ≥ j) = false := decide_eq_false hj
      rw [show max (i + 1) j.toNat = max i j.toNat by omega] at ih'
      have hstep : den T (.loop l_regencyref19_Heap_Next_0) (s_regencyref19_Heap_Next_0 (.box q 0) (.int .i64 j) (.int .i64 n) (.int .i64 i)) h = den T (.loop l_regencyref19_Heap_Next_0) (s_regencyref19_Heap_Next_0 (.box q 0) (.int .i64 j) (.int .i64 n) (.int .i64 (i + 1 : Nat))) h := by
        rw [lp_round]
        simp (maxSteps := 2000000) -implicitDefEqProofs (disch := (refine id_ok ?_; first | assumption | omega | (simp only [go_sem, List.size_toArray, List.length_map, List.length_append, List.length_take, List.length_drop, List.length_cons, List.length_nil, mrLL_app, keyD_i, keyD_s, keyD_b, Nat.reduceAdd, Nat.reduceEqDiff, Nat.reduceLeDiff] <;> omega) | with_unfolding_all rfl | decide)) only [go_sem, Nat.reduceAdd, Nat.reduceSub, Nat.reduceMul, Nat.reduceLeDiff, Nat.reduceEqDiff, Nat.reduceBEq, reduceIte, reduceCtorEq, hd', hq, ha, ix91, d1, e7]
        try rfl
      rw [hstep]
      exact ih'
theorem rn1_loop {h : AH} {q a b n : Nat} {l s d : Int} {hs : List Bool} {ps : List (List UInt8)} (hh : RefAt h q a b l s d hs ps n) (hn : n ≤ 1000000) : ∀ (dd i : Nat), dd + i = n →
    (ff (hs.drop i) i = -1 ∧ den T (.loop l_regencyref19_Heap_Next_1) (s_regencyref19_Heap_Next_1 (.box q 0) (.int .i64 n) (.int .i64 i)) h = some (.exit 2, x_regencyref19_Heap_Next_2, h)) ∨
    (ff (hs.drop i) i ≠ -1 ∧ ∃ σ, den T (.loop l_regencyref19_Heap_Next_1) (s_regencyref19_Heap_Next_1 (.box q 0) (.int .i64 n) (.int .i64 i)) h = some (.ret, σ, h) ∧ σ.getD 4 undefA = .int .i64 (ff (hs.drop i) i)) := by
  obtain ⟨hq, ha, hb, hl, pl⟩ := hh
  intro dd
  induction dd with
  | zero =>
    intro i hd
    have hd' : decide ((i : Int) < n) = false := decide_eq_false (by omega)
    refine .inl ⟨by rw [List.drop_eq_nil_of_le (by omega)]; rfl, ?_⟩
    rw [lp_round]
    simp -implicitDefEqProofs (disch := (refine id_ok ?_; first | assumption | omega | (simp only [go_sem, List.size_toArray, List.length_map, List.length_append, List.length_take, List.length_drop, List.length_cons, List.length_nil, mrLL_app, keyD_i, keyD_s, keyD_b, Nat.reduceAdd, Nat.reduceEqDiff, Nat.reduceLeDiff] <;> omega) | with_unfolding_all rfl | decide)) only [go_sem, Nat.reduceAdd, Nat.reduceSub, Nat.reduceMul, Nat.reduceLeDiff, Nat.reduceEqDiff, Nat.reduceBEq, reduceIte, reduceCtorEq, hd']
  | succ dd ih =>
    intro i hd
    have hib : i < hs.length := by omega
    have hd' : decide ((i : Int) < n) = true := decide_eq_true (by omega)
    have hge : (hs.map AV.bool)[i]? = some (.bool hs[i]) := by simp [hib]
    have hdr : hs.drop i = hs[i] :: hs.drop (i + 1) := List.drop_eq_getElem_cons hib
    have e7 := inc91 (n := i) (by omega)
    have ih' := ih (i + 1) (by omega)
    rw [hdr]
    generalize hs[i] = x at *
    cases x with
    | false =>
      rw [ff_f]
      refine .inr ⟨by omega, ?_⟩
      rw [lp_round]
      simp (maxSteps := 2000000) -implicitDefEqProofs (disch := (refine id_ok ?_; first | assumption | omega | (simp only [go_sem, List.size_toArray, List.length_map, List.length_append, List.length_take, List.length_drop, List.length_cons, List.length_nil, mrLL_app, keyD_i, keyD_s, keyD_b, Nat.reduceAdd, Nat.reduceEqDiff, Nat.reduceLeDiff] <;> omega) | with_unfolding_all rfl | decide)) only [go_sem, Nat.reduceAdd, Nat.reduceSub, Nat.reduceMul, Nat.reduceLeDiff, Nat.reduceEqDiff, Nat.reduceBEq, reduceIte, reduceCtorEq, hd', hq, ha, hge, ix91]
      exact ⟨_, rfl, rfl⟩
    | true =>
      rw [ff_t]
      have hstep : den T (.loop l_regencyref19_Heap_Next_1) (s_regencyref19_Heap_Next_1 (.box q 0) (.int .i64 n) (.int .i64 i)) h = den T (.loop l_regencyref19_Heap_Next_1) (s_regencyref19_Heap_Next_1 (.box q 0) (.int .i64 n) (.int .i64 (i + 1 : Nat))) h := by
        rw [lp_round]
        simp (maxSteps := 2000000) -implicitDefEqProofs (disch := (refine id_ok ?_; first | assumption | omega | (simp only [go_sem, List.size_toArray, List.length_map, List.length_append, List.length_take, List.length_drop, List.length_cons, List.length_nil, mrLL_app, keyD_i, keyD_s, keyD_b, Nat.reduceAdd, Nat.reduceEqDiff, Nat.reduceLeDiff] <;> omega) | with_unfolding_all rfl | decide)) only [go_sem, Nat.reduceAdd, Nat.reduceSub, Nat.reduceMul, Nat.reduceLeDiff, Nat.reduceEqDiff, Nat.reduceBEq, reduceIte, reduceCtorEq, hd', hq, ha, hge, ix91, e7]
        try rfl
      rw [hstep]
      exact ih'
theorem rnext_run {h : AH} {q a b n : Nat} {l s d j : Int} {hs : List Bool} {ps : List (List UInt8)} (hh : RefAt h q a b l s d hs ps n) (hn : n ≤ 1000000) : run T 16 [.box q 0, .int .i64 j] h = some (.int .i64 (nx hs j), h) := by
  have h0 := rn0_loop (j := j) hh hn n 0 (by omega)
  have h1 := rn1_loop hh hn n 0 (by omega)
  obtain ⟨hq, ha, hb, hl, pl⟩ := hh
  rw [show max 0 j.toNat = j.toNat by omega] at h0
  rw [List.drop_zero] at h1
  simp only [show ((0 : Nat) : Int) = 0 from rfl] at h0 h1
  unfold nx
  rw [run_code T_16]
  rcases h0 with ⟨e0, k0⟩ | ⟨e0, σ, k0, k1⟩
  · rw [if_pos e0]
    rcases h1 with ⟨f0, g0⟩ | ⟨f0, σ, g0, g1⟩
    · rw [f0]
      simp (maxSteps := 2000000) -implicitDefEqProofs (disch := (refine id_ok ?_; first | assumption | omega | (simp only [go_sem, List.size_toArray, List.length_map, List.length_append, List.length_take, List.length_drop, List.length_cons, List.length_nil, mrLL_app, keyD_i, keyD_s, keyD_b, Nat.reduceAdd, Nat.reduceEqDiff, Nat.reduceLeDiff] <;> omega) | with_unfolding_all rfl | decide)) only [go_sem, Nat.reduceAdd, Nat.reduceSub, Nat.reduceMul, Nat.reduceLeDiff, Nat.reduceEqDiff, Nat.reduceBEq, reduceIte, reduceCtorEq, c_regencyref19_Heap_Next, hq, k0, g0]
    · simp (maxSteps := 2000000) -implicitDefEqProofs (disch := (refine id_ok ?_; first | assumption | omega | (simp only [go_sem, List.size_toArray, List.length_map, List.length_append, List.length_take, List.length_drop, List.length_cons, List.length_nil, mrLL_app, keyD_i, keyD_s, keyD_b, Nat.reduceAdd, Nat.reduceEqDiff, Nat.reduceLeDiff] <;> omega) | with_unfolding_all rfl | decide)) only [go_sem, Nat.reduceAdd, Nat.reduceSub, Nat.reduceMul, Nat.reduceLeDiff, Nat.reduceEqDiff, Nat.reduceBEq, reduceIte, reduceCtorEq, c_regencyref19_Heap_Next, hq, k0, g0, g1]
  · rw [if_neg e0]
    simp (maxSteps := 2000000) -implicitDefEqProofs (disch := (refine id_ok ?_; first | assumption | omega | (simp only [go_sem, List.size_toArray, List.length_map, List.length_append, List.length_take, List.length_drop, List.length_cons, List.length_nil, mrLL_app, keyD_i, keyD_s, keyD_b, Nat.reduceAdd, Nat.reduceEqDiff, Nat.reduceLeDiff] <;> omega) | with_unfolding_all rfl | decide)) only [go_sem, Nat.reduceAdd, Nat.reduceSub, Nat.reduceMul, Nat.reduceLeDiff, Nat.reduceEqDiff, Nat.reduceBEq, reduceIte, reduceCtorEq, c_regencyref19_Heap_Next, hq, k0, k1]
/-! ### a put -/
def rputR (l s d i : Int) (c : List UInt8) (hs : List Bool) (ps : List (List UInt8)) : Int :=
  if clen l s d i < 0 then 37 else if (c.length : Int) ≠ clen l s d i then 13 else if hs[i.toNat]? = some true ∧ ps[i.toNat]? ≠ some c then 41 else 0
theorem rput_run {h : AH} {q a b n : Nat} {l s d i : Int} {c : List UInt8} {hs : List Bool} {ps : List (List UInt8)} (hh : RefAt h q a b l s d hs ps n) (hn : (n : Int) = cnt l s d) (hab : a ≠ b) (hqa : q ≠ a) :
    run T 12 [.box q 0, .int .i64 i, .sl .sh (c.map encB)] h = some (.int .i64 (rputR l s d i c hs ps), if rputR l s d i c hs ps = 0 then (h.set a (.cells ((hs.set i.toNat true).map AV.bool))).set b (.cells ((ps.set i.toNat c).map encS)) else h) := by
  obtain ⟨hq, ha, hb, hl, pl⟩ := hh
  have hla : a < h.length := (List.getElem?_eq_some_iff.1 ha).1
  have h1 := rlength_run (l := l) (s := s) (d := d) (i := i) (h := [])
  simp only [hd] at h1
  rw [run_code T_12]
  by_cases hk : clen l s d i < 0
  · have e1 : decide (clen l s d i < 0) = true := decide_eq_true hk
    have hr : rputR l s d i c hs ps = 37 := by unfold rputR; rw [if_pos hk]
    rw [hr, if_neg (by omega)]
    simp (maxSteps := 2000000) -implicitDefEqProofs (disch := (refine id_ok ?_; first | assumption | omega | (simp only [go_sem, List.size_toArray, List.length_map, List.length_append, List.length_take, List.length_drop, List.length_cons, List.length_nil, mrLL_app, keyD_i, keyD_s, keyD_b, Nat.reduceAdd, Nat.reduceEqDiff, Nat.reduceLeDiff] <;> omega) | with_unfolding_all rfl | decide)) only [go_sem, Nat.reduceAdd, Nat.reduceSub, Nat.reduceMul, Nat.reduceLeDiff, Nat.reduceEqDiff, Nat.reduceBEq, reduceIte, reduceCtorEq, c_regencyref19_Heap_Put, hq, h1, e1]
  · have e1 : decide (clen l s d i < 0) = false := decide_eq_false hk
    have hin : 0 ≤ i ∧ i < n := by
      unfold clen at hk
      split at hk
      · rename_i z; omega
      · omega
    obtain ⟨u, rfl⟩ : ∃ u : Nat, i = u := ⟨i.toNat, by omega⟩
    simp only [Int.toNat_natCast]
    by_cases hlen : (c.length : Int) = clen l s d u
    · have e2 : ((c.length : Int) != clen l s d u) = false := by simp [hlen]
      have huh : u < hs.length := by omega
      have hup : u < ps.length := by omega
      have g1 : (hs.map AV.bool)[u]? = some (.bool hs[u]) := by simp [huh]
      have g2 : (ps.map encS)[u]? = some (.str ⟨ps[u].toArray⟩) := by simp [hup, encS]
      have hbs : (h.set a (.cells ((hs.set u true).map AV.bool)))[b]? = some (.cells (ps.map encS)) := by rw [List.getElem?_set_ne hab]; exact hb
      have hqs : (h.set a (.cells ((hs.set u true).map AV.bool)))[q]? = some (.cells [.int .i64 l, .int .i64 s, .int .i64 d, .bs a 0 n (some n), .bs b 0 n (some n)]) := by rw [List.getElem?_set_ne (fun z => hqa z.symm)]; exact hq
      have o1 : (hs.map AV.bool).take u ++ AV.bool true :: (hs.map AV.bool).drop (u + 1) = (hs.set u true).map AV.bool := by rw [ovl1 (by simpa using huh), List.map_set]
      have o2 : (ps.map encS).take u ++ AV.str ⟨c.toArray⟩ :: (ps.map encS).drop (u + 1) = (ps.set u c).map encS := by rw [ovl1 (by simpa using hup), List.map_set]; rfl
      have b1 : Nat.ble (u + 1) (hs.map AV.bool).length = true := by rw [List.length_map]; exact Nat.ble_eq_true_of_le (by omega)
      have b2 : Nat.ble (u + 1) (ps.map encS).length = true := by rw [List.length_map]; exact Nat.ble_eq_true_of_le (by omega)
      have hsu : hs[u]? = some hs[u] := List.getElem?_eq_getElem huh
      have psu : ps[u]? = some ps[u] := List.getElem?_eq_getElem hup
      have hr : rputR l s d (u : Int) c hs ps = if hs[u] = true ∧ ps[u] ≠ c then 41 else 0 := by
        unfold rputR
        rw [if_neg hk, if_neg (by simpa using hlen), Int.toNat_natCast, hsu, psu]
        simp only [Option.some.injEq, ne_eq]
      rw [hr]
      clear hr hsu psu
      generalize hs[u] = x at *
      generalize ps[u] = w at *
      cases x with
      | false =>
        rw [if_neg (show ¬ (false = true ∧ w ≠ c) by simp), if_pos rfl]
        simp (maxSteps := 4000000) -implicitDefEqProofs (disch := (refine id_ok ?_; first | assumption | omega | (simp only [go_sem, List.size_toArray, List.length_map, List.length_append, List.length_take, List.length_drop, List.length_cons, List.length_nil, mrLL_app, keyD_i, keyD_s, keyD_b, Nat.reduceAdd, Nat.reduceEqDiff, Nat.reduceLeDiff] <;> omega) | with_unfolding_all rfl | decide)) only [go_sem, Nat.reduceAdd, Nat.reduceSub, Nat.reduceMul, Nat.reduceLeDiff, Nat.reduceEqDiff, Nat.reduceBEq, reduceIte, reduceCtorEq, c_regencyref19_Heap_Put, hq, h1, e1, List.length_map, e2, ha, hb, g1, g2, ix91, b1, b2, o1, o2, hbs, hqs]
        exact gc_set2
      | true =>
        by_cases hw : w = c
        · have e3 : (w == c) = true := by simp [hw]
          rw [if_neg (show ¬ (true = true ∧ w ≠ c) by simp [hw]), if_pos rfl]
          simp (maxSteps := 4000000) -implicitDefEqProofs (disch := (refine id_ok ?_; first | assumption | omega | (simp only [go_sem, List.size_toArray, List.length_map, List.length_append, List.length_take, List.length_drop, List.length_cons, List.length_nil, mrLL_app, keyD_i, keyD_s, keyD_b, Nat.reduceAdd, Nat.reduceEqDiff, Nat.reduceLeDiff] <;> omega) | with_unfolding_all rfl | decide)) only [go_sem, Nat.reduceAdd, Nat.reduceSub, Nat.reduceMul, Nat.reduceLeDiff, Nat.reduceEqDiff, Nat.reduceBEq, reduceIte, reduceCtorEq, c_regencyref19_Heap_Put, hq, h1, e1, List.length_map, e2, ha, hb, g1, g2, ix91, b1, b2, o1, o2, hbs, hqs, toList_mk, e3, Bool.not_true]
          exact gc_set2
        · have e3 : (w == c) = false := by simp [hw]
          rw [if_pos (show true = true ∧ w ≠ c from ⟨rfl, hw⟩), if_neg (by omega)]
          simp (maxSteps := 4000000) -implicitDefEqProofs (disch := (refine id_ok ?_; first | assumption | omega | (simp only [go_sem, List.size_toArray, List.length_map, List.length_append, List.length_take, List.length_drop, List.length_cons, List.length_nil, mrLL_app, keyD_i, keyD_s, keyD_b, Nat.reduceAdd, Nat.reduceEqDiff, Nat.reduceLeDiff] <;> omega) | with_unfolding_all rfl | decide)) only [go_sem, Nat.reduceAdd, Nat.reduceSub, Nat.reduceMul, Nat.reduceLeDiff, Nat.reduceEqDiff, Nat.reduceBEq, reduceIte, reduceCtorEq, c_regencyref19_Heap_Put, hq, h1, e1, List.length_map, e2, ha, hb, g1, g2, ix91, toList_mk, e3, Bool.not_false]
    · have e2 : ((c.length : Int) != clen l s d u) = true := by simp [hlen]
      have hr : rputR l s d (u : Int) c hs ps = 13 := by unfold rputR; rw [if_neg hk, if_pos hlen]
      rw [hr, if_neg (by omega)]
      simp (maxSteps := 2000000) -implicitDefEqProofs (disch := (refine id_ok ?_; first | assumption | omega | (simp only [go_sem, List.size_toArray, List.length_map, List.length_append, List.length_take, List.length_drop, List.length_cons, List.length_nil, mrLL_app, keyD_i, keyD_s, keyD_b, Nat.reduceAdd, Nat.reduceEqDiff, Nat.reduceLeDiff] <;> omega) | with_unfolding_all rfl | decide)) only [go_sem, Nat.reduceAdd, Nat.reduceSub, Nat.reduceMul, Nat.reduceLeDiff, Nat.reduceEqDiff, Nat.reduceBEq, reduceIte, reduceCtorEq, c_regencyref19_Heap_Put, hq, h1, e1, List.length_map, e2]
end Go.Proofs.Ytgmhbncbmpahjaa.L
