/- Books: verdicts, the last reply, notes. -/
import Derived.Test.YtjeigcnaalleiaaDoorL31
set_option linter.all false
set_option maxRecDepth 100000
namespace Go.Proofs.YtjeigcnaalleiaaDoor.L
open Go.Proofs.YtjeigcnaalleiaaDoor.M Go.Proofs.YtjeigcnaalleiaaDoor.F Go.Proofs

theorem ver_run {p : Nat} {b : List Ln} {c n : Int} {h : AH} (hp : h[p]? = some (Bk b)) (hb : b.length = 8) (hs : ∀ l ∈ b, 0 ≤ l.1 ∧ l.1 ≤ 1048576) : run T 53 [.box p 0, .int .i64 c, .int .i64 n] h = some (.int .i64 (verB b c n), h) := by
  have k1 := known_run (c := c) (h := [])
  rw [run_code T_53]
  unfold verB
  by_cases h1 : 0 ≤ c ∧ c < 8
  · obtain ⟨k, rfl⟩ : ∃ k : Nat, c = k := ⟨c.toNat, by omega⟩
    rw [decide_eq_true h1] at k1
    by_cases h2 : n < 1
    · have e2 : decide (n < 1) = true := decide_eq_true h2
      rw [if_neg (by omega)]
      simp -implicitDefEqProofs (disch := (refine id_ok ?_; first | assumption | omega | (simp only [go_sem, List.length_map, List.length_append, List.length_take, List.length_drop, mrLL_app, keyD_i, keyD_s, keyD_b, Nat.reduceAdd, Nat.reduceEqDiff, Nat.reduceLeDiff] <;> omega) | with_unfolding_all rfl | decide)) only [go_sem, Nat.reduceAdd, Nat.reduceSub, Nat.reduceMul, Nat.reduceLeDiff, Nat.reduceEqDiff, Nat.reduceBEq, reduceIte, reduceCtorEq, c_clients_Book_Verdict, k1, e2]
    · have e2 : decide (n < 1) = false := decide_eq_false h2
      by_cases h3 : n > 1048576
      · have e3 : decide (n > 1048576) = true := decide_eq_true h3
        rw [if_neg (by omega)]
        simp -implicitDefEqProofs (disch := (refine id_ok ?_; first | assumption | omega | (simp only [go_sem, List.length_map, List.length_append, List.length_take, List.length_drop, mrLL_app, keyD_i, keyD_s, keyD_b, Nat.reduceAdd, Nat.reduceEqDiff, Nat.reduceLeDiff] <;> omega) | with_unfolding_all rfl | decide)) only [go_sem, Nat.reduceAdd, Nat.reduceSub, Nat.reduceMul, Nat.reduceLeDiff, Nat.reduceEqDiff, Nat.reduceBEq, reduceIte, reduceCtorEq, c_clients_Book_Verdict, k1, e2, e3]
      · have e3 : decide (n > 1048576) = false := decide_eq_false h3
        have hk : k < b.length := by omega
        have hm := hs b[k] (by simp)
        have hg := flat_get (b := b) (i := k) (k := 0) hk (by omega)
        rw [if_pos (by omega), Int.toNat_natCast, List.getElem?_eq_getElem hk]
        simp only
        rw [encL_0, Nat.add_zero] at hg
        have ki : (0 ≤ (k : Int) ∧ (k : Int) < 8) = True := by simp; omega
        generalize b[k] = l at *
        have e7 : IntKind.i64.wrap (l.1 + 1) = l.1 + 1 := w64 (by omega) (by omega)
        by_cases h4 : n < l.1
        · have e4 : decide (n < l.1) = true := decide_eq_true h4
          rw [if_pos h4]
          simp -implicitDefEqProofs (disch := (refine id_ok ?_; first | assumption | omega | (simp only [go_sem, List.length_map, List.length_append, List.length_take, List.length_drop, mrLL_app, keyD_i, keyD_s, keyD_b, Nat.reduceAdd, Nat.reduceEqDiff, Nat.reduceLeDiff] <;> omega) | with_unfolding_all rfl | decide)) only [go_sem, Nat.reduceAdd, Nat.reduceSub, Nat.reduceMul, Nat.reduceLeDiff, Nat.reduceEqDiff, Nat.reduceBEq, reduceIte, reduceCtorEq, c_clients_Book_Verdict, k1, e2, e3, hp, Bk, Int.toNat_natCast, hg, e4]
        · have e4 : decide (n < l.1) = false := decide_eq_false h4
          rw [if_neg h4]
          by_cases h5 : n = l.1
          · have e5 : (n == l.1) = true := by simp [h5]
            rw [if_pos h5]
            simp -implicitDefEqProofs (disch := (refine id_ok ?_; first | assumption | omega | (simp only [go_sem, List.length_map, List.length_append, List.length_take, List.length_drop, mrLL_app, keyD_i, keyD_s, keyD_b, Nat.reduceAdd, Nat.reduceEqDiff, Nat.reduceLeDiff] <;> omega) | with_unfolding_all rfl | decide)) only [go_sem, Nat.reduceAdd, Nat.reduceSub, Nat.reduceMul, Nat.reduceLeDiff, Nat.reduceEqDiff, Nat.reduceBEq, reduceIte, reduceCtorEq, c_clients_Book_Verdict, k1, e2, e3, hp, Bk, Int.toNat_natCast, hg, e4, e5]
          · have e5 : (n == l.1) = false := by simp [h5]
            rw [if_neg h5]
            by_cases h6 : l.1 + 1 < n
            · have e6 : decide (n > l.1 + 1) = true := decide_eq_true (by omega)
              rw [if_pos h6]
              simp -implicitDefEqProofs (disch := (refine id_ok ?_; first | assumption | omega | (simp only [go_sem, List.length_map, List.length_append, List.length_take, List.length_drop, mrLL_app, keyD_i, keyD_s, keyD_b, Nat.reduceAdd, Nat.reduceEqDiff, Nat.reduceLeDiff] <;> omega) | with_unfolding_all rfl | decide)) only [go_sem, Nat.reduceAdd, Nat.reduceSub, Nat.reduceMul, Nat.reduceLeDiff, Nat.reduceEqDiff, Nat.reduceBEq, reduceIte, reduceCtorEq, c_clients_Book_Verdict, k1, e2, e3, hp, Bk, Int.toNat_natCast, hg, e4, e5, e6, e7]
            · have e6 : decide (n > l.1 + 1) = false := decide_eq_false (by omega)
              rw [if_neg h6]
              simp -implicitDefEqProofs (disch := (refine id_ok ?_; first | assumption | omega | (simp only [go_sem, List.length_map, List.length_append, List.length_take, List.length_drop, mrLL_app, keyD_i, keyD_s, keyD_b, Nat.reduceAdd, Nat.reduceEqDiff, Nat.reduceLeDiff] <;> omega) | with_unfolding_all rfl | decide)) only [go_sem, Nat.reduceAdd, Nat.reduceSub, Nat.reduceMul, Nat.reduceLeDiff, Nat.reduceEqDiff, Nat.reduceBEq, reduceIte, reduceCtorEq, c_clients_Book_Verdict, k1, e2, e3, hp, Bk, Int.toNat_natCast, hg, e4, e5, e6, e7]
  · rw [decide_eq_false h1] at k1
    rw [if_neg (by omega)]
    simp -implicitDefEqProofs (disch := (refine id_ok ?_; first | assumption | omega | (simp only [go_sem, List.length_map, List.length_append, List.length_take, List.length_drop, mrLL_app, keyD_i, keyD_s, keyD_b, Nat.reduceAdd, Nat.reduceEqDiff, Nat.reduceLeDiff] <;> omega) | with_unfolding_all rfl | decide)) only [go_sem, Nat.reduceAdd, Nat.reduceSub, Nat.reduceMul, Nat.reduceLeDiff, Nat.reduceEqDiff, Nat.reduceBEq, reduceIte, reduceCtorEq, c_clients_Book_Verdict, k1]
/-- The last reply to a client. -/
def lstB (b : List Ln) (c : Int) : Int × Rep :=
  if 0 ≤ c ∧ c < 8 then match b[c.toNat]? with | some l => (l.1, copR (repL l)) | none => (0, zeroR) else (0, zeroR)
theorem shL_R (r : Rep) : shL (encR r) = encR r := rfl
theorem lst_run {p : Nat} {b : List Ln} {c : Int} {h : AH} (hp : h[p]? = some (Bk b)) (hb : b.length = 8) (ho : ∀ l ∈ b, okR (repL l)) : run T 28 [.box p 0, .int .i64 c] h = some (.tup [.int .i64 (lstB b c).1, .agg (encR (lstB b c).2)], h) := by
  have hlt : p < h.length := (List.getElem?_eq_some_iff.1 hp).1
  have k1 := known_run (c := c) (h := [])
  have gp : ∀ js : AH, (h ++ js)[p]? = some (Bk b) := fun js => by rw [List.getElem?_append_left hlt]; exact hp
  have hl1 : ∀ x : Bx, (h ++ [x]).length = h.length + 1 := fun x => by simp
  rw [run_code T_28]
  unfold lstB
  by_cases h1 : 0 ≤ c ∧ c < 8
  · obtain ⟨k, rfl⟩ : ∃ k : Nat, c = k := ⟨c.toNat, by omega⟩
    rw [decide_eq_true h1] at k1
    have hk : k < b.length := by omega
    have hc := copR_run (ho b[k] (by simp))
    have hle : Nat.ble (k * 7 + 7) (b.flatMap encL).length = true := by rw [flat_len]; exact Nat.ble_eq_true_of_le (by omega)
    have ht := flat_take (b := b) (i := k) hk
    rw [if_pos h1, Int.toNat_natCast, List.getElem?_eq_getElem hk]
    simp only
    generalize b[k] = l at *
    generalize copR (repL l) = q at *
    have hsl := shL_L l
    simp only [encR] at hc hsl ⊢
    simp (maxSteps := 2000000) -implicitDefEqProofs (disch := (refine id_ok ?_; first | assumption | omega | (simp only [go_sem, List.length_map, List.length_append, List.length_take, List.length_drop, mrLL_app, keyD_i, keyD_s, keyD_b, Nat.reduceAdd, Nat.reduceEqDiff, Nat.reduceLeDiff] <;> omega) | with_unfolding_all rfl | decide)) only [go_sem, Nat.reduceAdd, Nat.reduceSub, Nat.reduceMul, Nat.reduceLeDiff, Nat.reduceEqDiff, Nat.reduceBEq, reduceIte, reduceCtorEq, c_clients_Book_Last, k1, gp, hl1, Bk, app_get, app_set, app_get0, app_set0, Int.toNat_natCast, ht, hle, hsl, hc]
  · rw [decide_eq_false h1] at k1
    rw [if_neg (by omega)]
    simp (maxSteps := 2000000) -implicitDefEqProofs (disch := (refine id_ok ?_; first | assumption | omega | (simp only [go_sem, List.length_map, List.length_append, List.length_take, List.length_drop, mrLL_app, keyD_i, keyD_s, keyD_b, Nat.reduceAdd, Nat.reduceEqDiff, Nat.reduceLeDiff] <;> omega) | with_unfolding_all rfl | decide)) only [go_sem, Nat.reduceAdd, Nat.reduceSub, Nat.reduceMul, Nat.reduceLeDiff, Nat.reduceEqDiff, Nat.reduceBEq, reduceIte, reduceCtorEq, c_clients_Book_Last, k1, app_get, app_set, app_get0, app_set0]
    rfl
theorem mrL_Bk : ∀ b : List Ln, mrL (b.flatMap encL) = 0
  | [] => rfl
  | (n, none) :: b => by
    have ih := mrL_Bk b
    simp only [List.flatMap_cons, encL, encO, List.cons_append, List.nil_append, mrL, AV.mr, ow_mr, mrLL, ih]
    decide
  | (n, some r) :: b => by
    have ih := mrL_Bk b
    have h1 : mrLL (r.text.map encB) = 0 := mrLL_B
    have h2 : mrLL (r.label.map encE) = 0 := mrLL_E
    have h3 : mrLL (r.kids.map encK) = 0 := mrLL_K
    simp only [List.flatMap_cons, encL, encO, encR, List.cons_append, List.nil_append, mrL, AV.mr, h1, h2, h3, ih]
    decide
theorem mrB_Bk {b : List Ln} : mrB (Bk b) = 0 := by simp only [Bk, mrB, mrL_Bk]
/-- A note: its number, the book behind it. -/
def notB (b : List Ln) (c n : Int) (r : Rep) : Int × List Ln :=
  if verB b c n = 4 ∨ rigR r = false then (2, b)
  else if verB b c n = 1 ∨ verB b c n = 2 then (40, b)
  else if verB b c n = 3 then (41, b)
  else (0, b.set c.toNat (n, some (copR r)))
theorem verB_ok {b : List Ln} {c n : Int} (h : verB b c n ≠ 4) : 0 ≤ c ∧ c < 8 ∧ 1 ≤ n ∧ n ≤ 1048576 := by
  unfold verB at h
  split at h
  · assumption
  · exact absurd rfl h
theorem not_run {p : Nat} {b : List Ln} {c n : Int} {r : Rep} {h : AH} (hp : h[p]? = some (Bk b)) (hb : b.length = 8) (hs : ∀ l ∈ b, 0 ≤ l.1 ∧ l.1 ≤ 1048576) (ho : okR r) :
    run T 29 [.box p 0, .int .i64 c, .int .i64 n, .agg (encR r)] h = some (.int .i64 (notB b c n r).1, h.set p (Bk (notB b c n r).2)) := by
  have hlt : p < h.length := (List.getElem?_eq_some_iff.1 hp).1
  have hsame := set_same hp
  have gp : ∀ js : AH, (h ++ js)[p]? = some (Bk b) := fun js => by rw [List.getElem?_append_left hlt]; exact hp
  have sp : ∀ (js : AH) (X : Bx), (h ++ js).set p X = h.set p X ++ js := fun js X => List.set_append_left _ _ hlt
  have hl1 : ∀ x : Bx, (h ++ [x]).length = h.length + 1 := fun x => by simp
  have hv := fun js => ver_run (c := c) (n := n) (gp js) hb hs
  have hr := rigR_run ho.1 ho.2.1 ho.2.2
  have hc := copR_run ho
  have hvc := @verB_ok b c n
  have hvr : verB b c n = 4 ∨ verB b c n = 1 ∨ verB b c n = 2 ∨ verB b c n = 3 ∨ verB b c n = 0 := by
    unfold verB; split
    · split
      · split
        · simp
        · split
          · simp
          · split <;> simp
      · simp
    · simp
  rw [run_code T_29]
  unfold notB
  generalize verB b c n = v at *
  simp only [encR] at hr
  by_cases h4 : v = 4
  · subst h4
    rw [if_pos (.inl rfl)]
    simp only [hsame]
    simp (maxSteps := 2000000) -implicitDefEqProofs (disch := (refine id_ok ?_; first | assumption | omega | (simp only [go_sem, List.length_map, List.length_append, List.length_take, List.length_drop, mrLL_app, keyD_i, keyD_s, keyD_b, Nat.reduceAdd, Nat.reduceEqDiff, Nat.reduceLeDiff] <;> omega) | with_unfolding_all rfl | decide)) only [go_sem, Nat.reduceAdd, Nat.reduceSub, Nat.reduceMul, Nat.reduceLeDiff, Nat.reduceEqDiff, Nat.reduceBEq, reduceIte, reduceCtorEq, c_clients_Book_Note, hv, encR, show ((4 : Int) == 4) = true from rfl]
  · have e4 : (v == 4) = false := by simp [h4]
    cases hrr : rigR r with
    | false =>
      rw [hrr] at hr
      rw [if_pos (.inr rfl)]
      simp only [hsame]
      simp (maxSteps := 2000000) -implicitDefEqProofs (disch := (refine id_ok ?_; first | assumption | omega | (simp only [go_sem, List.length_map, List.length_append, List.length_take, List.length_drop, mrLL_app, keyD_i, keyD_s, keyD_b, Nat.reduceAdd, Nat.reduceEqDiff, Nat.reduceLeDiff] <;> omega) | with_unfolding_all rfl | decide)) only [go_sem, Nat.reduceAdd, Nat.reduceSub, Nat.reduceMul, Nat.reduceLeDiff, Nat.reduceEqDiff, Nat.reduceBEq, reduceIte, reduceCtorEq, c_clients_Book_Note, hv, encR, e4, app_get0, hr]
    | true =>
      rw [hrr] at hr
      rw [if_neg (by simp [h4])]
      by_cases h1 : v = 1
      · subst h1
        rw [if_pos (.inl rfl)]
        simp only [hsame]
        simp (maxSteps := 2000000) -implicitDefEqProofs (disch := (refine id_ok ?_; first | assumption | omega | (simp only [go_sem, List.length_map, List.length_append, List.length_take, List.length_drop, mrLL_app, keyD_i, keyD_s, keyD_b, Nat.reduceAdd, Nat.reduceEqDiff, Nat.reduceLeDiff] <;> omega) | with_unfolding_all rfl | decide)) only [go_sem, Nat.reduceAdd, Nat.reduceSub, Nat.reduceMul, Nat.reduceLeDiff, Nat.reduceEqDiff, Nat.reduceBEq, reduceIte, reduceCtorEq, c_clients_Book_Note, hv, encR, e4, app_get0, hr, show ((1 : Int) == 1) = true from rfl]
      · have e1 : (v == 1) = false := by simp [h1]
        by_cases h2 : v = 2
        · subst h2
          rw [if_pos (.inr rfl)]
          simp only [hsame]
          simp (maxSteps := 2000000) -implicitDefEqProofs (disch := (refine id_ok ?_; first | assumption | omega | (simp only [go_sem, List.length_map, List.length_append, List.length_take, List.length_drop, mrLL_app, keyD_i, keyD_s, keyD_b, Nat.reduceAdd, Nat.reduceEqDiff, Nat.reduceLeDiff] <;> omega) | with_unfolding_all rfl | decide)) only [go_sem, Nat.reduceAdd, Nat.reduceSub, Nat.reduceMul, Nat.reduceLeDiff, Nat.reduceEqDiff, Nat.reduceBEq, reduceIte, reduceCtorEq, c_clients_Book_Note, hv, encR, e4, app_get0, hr, e1, show ((2 : Int) == 2) = true from rfl]
        · have e2 : (v == 2) = false := by simp [h2]
          rw [if_neg (by omega)]
          by_cases h3 : v = 3
          · subst h3
            rw [if_pos rfl]
            simp only [hsame]
            simp (maxSteps := 2000000) -implicitDefEqProofs (disch := (refine id_ok ?_; first | assumption | omega | (simp only [go_sem, List.length_map, List.length_append, List.length_take, List.length_drop, mrLL_app, keyD_i, keyD_s, keyD_b, Nat.reduceAdd, Nat.reduceEqDiff, Nat.reduceLeDiff] <;> omega) | with_unfolding_all rfl | decide)) only [go_sem, Nat.reduceAdd, Nat.reduceSub, Nat.reduceMul, Nat.reduceLeDiff, Nat.reduceEqDiff, Nat.reduceBEq, reduceIte, reduceCtorEq, c_clients_Book_Note, hv, encR, e4, app_get0, hr, e1, e2, show ((3 : Int) == 3) = true from rfl]
          · have e3 : (v == 3) = false := by simp [h3]
            rw [if_neg h3]
            obtain ⟨hc0, hc8, hn1, hn2⟩ := hvc h4
            obtain ⟨k, rfl⟩ : ∃ k : Nat, c = k := ⟨c.toNat, by omega⟩
            have hk : k < b.length := by omega
            have hov := flat_ovl (b := b) (i := k) (n, some (copR r)) hk
            have hle : Nat.ble (k * 7 + 7) (b.flatMap encL).length = true := by rw [flat_len]; exact Nat.ble_eq_true_of_le (by omega)
            rw [Int.toNat_natCast]
            generalize copR r = q at *
            simp only [encL, encO, encR, ovl, List.cons_append, List.nil_append, List.length_cons, List.length_nil, List.append_assoc, Nat.zero_add, Nat.reduceAdd] at hov
            simp only [encR] at hc
            simp (maxSteps := 2000000) -implicitDefEqProofs (disch := (refine id_ok ?_; first | assumption | omega | (simp only [go_sem, List.length_map, List.length_append, List.length_take, List.length_drop, mrLL_app, keyD_i, keyD_s, keyD_b, Nat.reduceAdd, Nat.reduceEqDiff, Nat.reduceLeDiff] <;> omega) | with_unfolding_all rfl | decide)) only [go_sem, Nat.reduceAdd, Nat.reduceSub, Nat.reduceMul, Nat.reduceLeDiff, Nat.reduceEqDiff, Nat.reduceBEq, reduceIte, reduceCtorEq, c_clients_Book_Note, hv, encR, e4, app_get0, hr, e1, e2, e3, hc, gp, Bk, Int.toNat_natCast, hle, sp]
            rw [hov]
            exact gc_dropS rfl mrB_Bk
end Go.Proofs.YtjeigcnaalleiaaDoor.L
