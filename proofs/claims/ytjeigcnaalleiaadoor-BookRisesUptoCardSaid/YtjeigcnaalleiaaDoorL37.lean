/- BookRises: the law's loop. -/
import Derived.Test.YtjeigcnaalleiaaDoorL36
set_option linter.all false
set_option maxRecDepth 100000
namespace Go.Proofs.YtjeigcnaalleiaaDoor.L
open Go.Proofs.YtjeigcnaalleiaaDoor.M Go.Proofs.YtjeigcnaalleiaaDoor.F Go.Proofs

/-- An operation of bounded size. -/
def okO (o : Opn) : Prop := o.2.2.text.length ≤ 1048576 ∧ o.2.2.cat.length ≤ 1048576 ∧ o.2.2.label.length ≤ 1048576 ∧ (∀ e ∈ o.2.2.label, e.1.length ≤ 1048576) ∧ o.2.2.kids.length ≤ 1048576
theorem okO_R {o : Opn} (h : okO o) (h2 : o.2.2.kids.length ≤ 1000000) : okR o.2.2 := ⟨h2, by have := h.2.1; omega, fun e he => by have := h.2.2.2.1 e he; omega⟩
theorem lst0 {b : List Ln} {c : Int} {js : AH} (hb : b.length = 8) (hok : ∀ l ∈ b, okL l) : run T 28 [.box 0 0, .int .i64 c] (Bk b :: js) = some (.tup [.int .i64 (lstB b c).1, .agg (encR (lstB b c).2)], Bk b :: js) :=
  lst_run rfl hb fun l hl => okL_R (hok l hl)
theorem not0 {b : List Ln} {c n : Int} {r : Rep} {js : AH} (hb : b.length = 8) (hok : ∀ l ∈ b, okL l) (ho : okR r) : run T 29 [.box 0 0, .int .i64 c, .int .i64 n, .agg (encR r)] (Bk b :: js) = some (.int .i64 (notB b c n r).1, Bk (notB b c n r).2 :: js) :=
  not_run (p := 0) (h := Bk b :: js) rfl hb (fun l hl => okL_n (hok l hl)) ho
set_option maxHeartbeats 8000000 in
theorem rise_loop {l : List Opn} (hl : ∀ o ∈ l, okO o) (hll : l.length ≤ 1048576) : ∀ (d i : Nat) (b : List Ln) (js : AH), d + i = l.length → b.length = 8 → (∀ l ∈ b, okL l) →
    (∃ b' js', (∀ l ∈ b', okL l) ∧ b'.length = 8 ∧ den T (.loop l_regencylaw17_BookRises_0) (s_regencylaw17_BookRises_0 (.box 0 0) (.sl .sh (l.map encOp)) (.int .i64 l.length) (.int .i64 i)) (Bk b :: js) = some (.exit 0, x_regencylaw17_BookRises_0 (.box 0 0), Bk b' :: js')) ∨
    ∃ σ h', den T (.loop l_regencylaw17_BookRises_0) (s_regencylaw17_BookRises_0 (.box 0 0) (.sl .sh (l.map encOp)) (.int .i64 l.length) (.int .i64 i)) (Bk b :: js) = some (.ret, σ, h') ∧ σ.getD 2 undefA = .bool true := by
  intro d
  induction d with
  | zero =>
    intro i b js hd hb hok
    have hd' : decide ((i : Int) < l.length) = false := decide_eq_false (by omega)
    refine .inl ⟨b, js, hok, hb, ?_⟩
    rw [lp_round]
    simp -implicitDefEqProofs (disch := (refine id_ok ?_; first | assumption | omega | (simp only [go_sem, List.length_map, List.length_append, List.length_take, List.length_drop, mrLL_app, keyD_i, keyD_s, keyD_b, Nat.reduceAdd, Nat.reduceEqDiff, Nat.reduceLeDiff] <;> omega) | with_unfolding_all rfl | decide)) only [go_sem, Nat.reduceAdd, Nat.reduceSub, Nat.reduceMul, Nat.reduceLeDiff, Nat.reduceEqDiff, Nat.reduceBEq, reduceIte, reduceCtorEq, hd']
  | succ d ih =>
    intro i b js hd hb hok
    have hib : i < l.length := by omega
    have hd' : decide ((i : Int) < l.length) = true := decide_eq_true (by omega)
    have hge : (l.map encOp)[(i : Int).toNat]? = some (encOp l[i]) := by simp [hib]
    have hcl := hl l[i] (by simp)
    generalize l[i] = o at *
    obtain ⟨c, n, r⟩ := o
    have henc : encOp (c, n, r) = .int .i64 c :: .int .i64 n :: encR r := rfl
    rw [henc] at hge
    obtain ⟨q1, q2, q3, q4, q5⟩ := hcl
    simp only at q1 q2 q3 q4 q5
    have e3' : IntKind.i64.wrap ((r.kids.length : Int) + (r.label.length : Int)) = (r.kids.length : Int) + (r.label.length : Int) := w64 (by omega) (by omega)
    by_cases h50 : (i : Int) ≥ 50
    · have e1 : decide ((i : Int) ≥ 50) = true := decide_eq_true h50
      right
      simp only [encR] at hge
      rw [lp_round]
      simp (maxSteps := 2000000) -implicitDefEqProofs (disch := (refine id_ok ?_; first | assumption | omega | (simp only [go_sem, List.length_map, List.length_append, List.length_take, List.length_drop, mrLL_app, keyD_i, keyD_s, keyD_b, Nat.reduceAdd, Nat.reduceEqDiff, Nat.reduceLeDiff] <;> omega) | with_unfolding_all rfl | decide)) only [go_sem, Nat.reduceAdd, Nat.reduceSub, Nat.reduceMul, Nat.reduceLeDiff, Nat.reduceEqDiff, Nat.reduceBEq, reduceIte, reduceCtorEq, hd', hge, e1]
      exact ⟨_, _, ⟨rfl, rfl⟩, rfl⟩
    · have e1 : decide ((i : Int) ≥ 50) = false := decide_eq_false h50
      by_cases ht : (r.text.length : Int) > 600
      · have e2 : decide ((r.text.length : Int) > 600) = true := decide_eq_true ht
        right
        simp only [encR] at hge
        rw [lp_round]
        simp (maxSteps := 2000000) -implicitDefEqProofs (disch := (refine id_ok ?_; first | assumption | omega | (simp only [go_sem, List.length_map, List.length_append, List.length_take, List.length_drop, mrLL_app, keyD_i, keyD_s, keyD_b, Nat.reduceAdd, Nat.reduceEqDiff, Nat.reduceLeDiff] <;> omega) | with_unfolding_all rfl | decide)) only [go_sem, Nat.reduceAdd, Nat.reduceSub, Nat.reduceMul, Nat.reduceLeDiff, Nat.reduceEqDiff, Nat.reduceBEq, reduceIte, reduceCtorEq, hd', hge, e1, app_get0, List.length_map, e2]
        exact ⟨_, _, ⟨rfl, rfl⟩, rfl⟩
      · have e2 : decide ((r.text.length : Int) > 600) = false := decide_eq_false ht
        by_cases hk : (r.kids.length : Int) + (r.label.length : Int) > 60
        · have e3 : decide ((r.kids.length : Int) + (r.label.length : Int) > 60) = true := decide_eq_true hk
          right
          simp only [encR] at hge
          rw [lp_round]
          simp (maxSteps := 2000000) -implicitDefEqProofs (disch := (refine id_ok ?_; first | assumption | omega | (simp only [go_sem, List.length_map, List.length_append, List.length_take, List.length_drop, mrLL_app, keyD_i, keyD_s, keyD_b, Nat.reduceAdd, Nat.reduceEqDiff, Nat.reduceLeDiff] <;> omega) | with_unfolding_all rfl | decide)) only [go_sem, Nat.reduceAdd, Nat.reduceSub, Nat.reduceMul, Nat.reduceLeDiff, Nat.reduceEqDiff, Nat.reduceBEq, reduceIte, reduceCtorEq, hd', hge, e1, app_get0, List.length_map, e2, e3', e3]
          exact ⟨_, _, ⟨rfl, rfl⟩, rfl⟩
        · have e3 : decide ((r.kids.length : Int) + (r.label.length : Int) > 60) = false := decide_eq_false hk
          by_cases hc : (r.cat.length : Int) > 100
          · have e4 : decide ((r.cat.length : Int) > 100) = true := decide_eq_true hc
            right
            simp only [encR] at hge
            rw [lp_round]
            simp (maxSteps := 2000000) -implicitDefEqProofs (disch := (refine id_ok ?_; first | assumption | omega | (simp only [go_sem, List.length_map, List.length_append, List.length_take, List.length_drop, mrLL_app, keyD_i, keyD_s, keyD_b, Nat.reduceAdd, Nat.reduceEqDiff, Nat.reduceLeDiff] <;> omega) | with_unfolding_all rfl | decide)) only [go_sem, Nat.reduceAdd, Nat.reduceSub, Nat.reduceMul, Nat.reduceLeDiff, Nat.reduceEqDiff, Nat.reduceBEq, reduceIte, reduceCtorEq, hd', hge, e1, app_get0, List.length_map, List.size_toArray, e2, e3', e3, e4]
            exact ⟨_, _, ⟨rfl, rfl⟩, rfl⟩
          · have e4 : decide ((r.cat.length : Int) > 100) = false := decide_eq_false hc
            have ho : okR r := okO_R (o := (c, n, r)) ⟨q1, q2, q3, q4, q5⟩ (by simp only; omega)
            obtain ⟨s1, s2, s3⟩ := not_spec (c := c) (n := n) (r := r) hb hok
            have lb := lst_bound (c := c) hok
            have t1 := fun js => lst0 (c := c) (js := js) hb hok
            have t2 := fun js => not0 (c := c) (n := n) (js := js) hb hok ho
            have t3 := fun js => lst0 (c := c) (js := js) s2 s1
            generalize notB b c n r = nb at *
            obtain ⟨e, b'⟩ := nb
            simp only at s1 s2 s3 t2 t3
            generalize lstB b c = w1 at *
            generalize lstB b' c = w2 at *
            obtain ⟨was, r1⟩ := w1
            obtain ⟨now, r2⟩ := w2
            simp only at s3 t1 t3 lb
            have e7 : IntKind.i64.wrap ((i : Int) + 1) = ((i + 1 : Nat) : Int) := by rw [w64 (by omega) (by omega)]; rfl
            have e8 : IntKind.i64.wrap (was + 1) = was + 1 := w64 (by omega) (by omega)
            have hq2 : ∀ x y : Bx, (js ++ [x, y]).length = js.length + 2 := fun x y => by simp
            have ih' := ih (i + 1) b' (js ++ [.cells (encOp (c, n, r)), .cells (encR r1), .cells (encR r2)]) (by omega) s2 s1
            rw [henc] at ih'
            simp only [encR] at hge t1 t2 t3
            rcases s3 with ⟨rfl, hw1, hw2⟩ | ⟨hne, hw⟩
            · subst hw1
              have f1 : (was + 1 != was + 1) = false := by simp
              have f2 : (was + 1 != n) = false := by simp [hw2]
              have hstep : den T (.loop l_regencylaw17_BookRises_0) (s_regencylaw17_BookRises_0 (.box 0 0) (.sl .sh (l.map encOp)) (.int .i64 l.length) (.int .i64 i)) (Bk b :: js) = den T (.loop l_regencylaw17_BookRises_0) (s_regencylaw17_BookRises_0 (.box 0 0) (.sl .sh (l.map encOp)) (.int .i64 l.length) (.int .i64 (i + 1 : Nat))) (Bk b' :: (js ++ [.cells (.int .i64 c :: .int .i64 n :: encR r), .cells (encR r1), .cells (encR r2)])) := by
                simp only [encR]
                rw [lp_round]
                simp (maxSteps := 4000000) -implicitDefEqProofs (disch := (refine id_ok ?_; first | assumption | omega | (simp only [go_sem, List.length_map, List.length_append, List.length_take, List.length_drop, mrLL_app, keyD_i, keyD_s, keyD_b, Nat.reduceAdd, Nat.reduceEqDiff, Nat.reduceLeDiff] <;> omega) | with_unfolding_all rfl | decide)) only [go_sem, Nat.reduceAdd, Nat.reduceSub, Nat.reduceMul, Nat.reduceLeDiff, Nat.reduceEqDiff, Nat.reduceBEq, reduceIte, reduceCtorEq, hd', hge, e1, app_get, app_get0, app_set, app_set0, hq2, List.length_map, List.size_toArray, e2, e3', e3, e4, t1, t2, t3, e8, f1, f2, show ((0 : Int) == 0) = true from rfl, show ((0 : Int) != 0) = false from rfl, e7]
                rfl
              rw [hstep]
              exact ih'
            · subst hw
              have f0 : (e == 0) = false := by simp [hne]
              have f1 : (e != 0) = true := by simp [hne]
              have f2 : (now != now) = false := by simp
              have hstep : den T (.loop l_regencylaw17_BookRises_0) (s_regencylaw17_BookRises_0 (.box 0 0) (.sl .sh (l.map encOp)) (.int .i64 l.length) (.int .i64 i)) (Bk b :: js) = den T (.loop l_regencylaw17_BookRises_0) (s_regencylaw17_BookRises_0 (.box 0 0) (.sl .sh (l.map encOp)) (.int .i64 l.length) (.int .i64 (i + 1 : Nat))) (Bk b' :: (js ++ [.cells (.int .i64 c :: .int .i64 n :: encR r), .cells (encR r1), .cells (encR r2)])) := by
                simp only [encR]
                rw [lp_round]
                simp (maxSteps := 4000000) -implicitDefEqProofs (disch := (refine id_ok ?_; first | assumption | omega | (simp only [go_sem, List.length_map, List.length_append, List.length_take, List.length_drop, mrLL_app, keyD_i, keyD_s, keyD_b, Nat.reduceAdd, Nat.reduceEqDiff, Nat.reduceLeDiff] <;> omega) | with_unfolding_all rfl | decide)) only [go_sem, Nat.reduceAdd, Nat.reduceSub, Nat.reduceMul, Nat.reduceLeDiff, Nat.reduceEqDiff, Nat.reduceBEq, reduceIte, reduceCtorEq, hd', hge, e1, app_get, app_get0, app_set, app_set0, hq2, List.length_map, List.size_toArray, e2, e3', e3, e4, t1, t2, t3, f0, f1, f2, e7]
                rfl
              rw [hstep]
              exact ih'
end Go.Proofs.YtjeigcnaalleiaaDoor.L
