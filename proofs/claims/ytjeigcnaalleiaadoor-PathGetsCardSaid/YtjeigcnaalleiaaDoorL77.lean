/- PathBack: the law. -/
import Derived.Test.YtjeigcnaalleiaaDoorL73
import Derived.Test.YtjeigcnaalleiaaDoorL75
set_option linter.all false
set_option maxRecDepth 100000
namespace Go.Proofs.YtjeigcnaalleiaaDoor.L
open Go.Proofs.YtjeigcnaalleiaaDoor.M Go.Proofs.YtjeigcnaalleiaaDoor.F Go.Proofs

theorem joinP_len : ∀ (p : List Int), (∀ k ∈ p, -9223372036854775808 ≤ k ∧ k ≤ 9223372036854775807) → (joinP (p.map Lib.itoa)).length ≤ 22 * p.length
  | [], _ => by simp [joinP]
  | [k], h => by
    obtain ⟨h1, h2⟩ := h k (by simp)
    have := itoa_len h1 h2
    simp only [List.map_cons, List.map_nil, joinP, List.length_cons, List.length_nil]; omega
  | k :: k2 :: p, h => by
    obtain ⟨h1, h2⟩ := h k (by simp)
    have := itoa_len h1 h2
    have ih := joinP_len (k2 :: p) fun x hx => h x (List.mem_cons_of_mem _ hx)
    simp only [List.map_cons, joinP, List.length_append, List.length_cons] at ih ⊢; omega
theorem dotT_len {p : List Int} (h : ∀ k ∈ p, -9223372036854775808 ≤ k ∧ k ≤ 9223372036854775807) : (dotT p).length ≤ 22 * p.length := by
  unfold dotT
  rw [← joinP_join]
  exact joinP_len p h
theorem first08 : run T 7 [] [] = some (.bool true, []) := run_of (n := 300) (by kernel_rfl)
set_option maxHeartbeats 16000000 in
theorem pback_run {p q : List Int} {n : Int} : run T 5 [.sl .sh (p.map encI), .sl .sh (q.map encI), .int .i64 n] [] = some (.bool true, []) := by
  rw [run_code T_5]
  have h1 := fun h => rigP_run (l := p) (h := h)
  have h2 := fun h => rigP_run (l := q) (h := h)
  cases hp : rigP p with
  | false =>
    rw [hp] at h1
    simp (maxSteps := 4000000) -implicitDefEqProofs (disch := (refine id_ok ?_; first | assumption | omega | (simp only [go_sem, List.size_toArray, List.length_map, List.length_append, List.length_take, List.length_drop, List.length_cons, List.length_nil, mrLL_app, keyD_i, keyD_s, keyD_b, Nat.reduceAdd, Nat.reduceEqDiff, Nat.reduceLeDiff] <;> omega) | with_unfolding_all rfl | decide)) only [go_sem, Nat.reduceAdd, Nat.reduceSub, Nat.reduceMul, Nat.reduceLeDiff, Nat.reduceEqDiff, Nat.reduceBEq, reduceIte, reduceCtorEq, c_regencylaw08_PathBack, first08, h1]
  | true =>
    rw [hp] at h1
    cases hq : rigP q with
    | false =>
      rw [hq] at h2
      simp (maxSteps := 4000000) -implicitDefEqProofs (disch := (refine id_ok ?_; first | assumption | omega | (simp only [go_sem, List.size_toArray, List.length_map, List.length_append, List.length_take, List.length_drop, List.length_cons, List.length_nil, mrLL_app, keyD_i, keyD_s, keyD_b, Nat.reduceAdd, Nat.reduceEqDiff, Nat.reduceLeDiff] <;> omega) | with_unfolding_all rfl | decide)) only [go_sem, Nat.reduceAdd, Nat.reduceSub, Nat.reduceMul, Nat.reduceLeDiff, Nat.reduceEqDiff, Nat.reduceBEq, reduceIte, reduceCtorEq, c_regencylaw08_PathBack, first08, h1, h2]
    | true =>
      rw [hq] at h2
      have hpl := (rigP_all hp).1
      have hql := (rigP_all hq).1
      have hdl : (dotT p).length ≤ 281474976710656 := by
        have := dotT_len (p := p) fun k hk => by have := (rigP_all hp).2 k hk; omega
        omega
      have h3 := fun h => ptx_run (l := p) (h := h) (by omega) (rigP_inI hp)
      have h4 := prs_run hdl
      rw [prs_dot hp] at h4
      have h5 := pput_run (p := 0) (l := p) (b := []) (h := [Bx.cells [ow []]]) rfl (by omega) (by simp)
      rw [List.nil_append] at h5
      have hbl := bytA_len p (by omega)
      have h6 := pbytes_run (p := 0) (l := bytA p) (h := [Pn (bytA p)]) rfl (by omega)
      have h7 := tnew_run (b := bytA p) (h := [Pn (bytA p)]) (by omega)
      have h8 := pget_run (t := 1) (s := (bytA p, none)) (h := [Pn (bytA p), Tb (bytA p, none)]) rfl (by simp only; omega)
      have h9 := gtP_put hp []
      rw [List.append_nil] at h9
      rw [h9] at h8
      have hsm : ∀ (a b : List Int) (h : AH), a.length ≤ 6 → run T 11 [.sl .sh (a.map encI), .sl .sh (b.map encI)] h = some (.bool (decide (a = b)), h) := fun a b h ha => sm8_run (by omega)
      have s1 := fun h => hsm p p h hpl
      have s2 := fun h => hsm p q h hpl
      rw [decide_eq_true rfl] at s1
      have c1 := fun h => cmp_run (a := p) (b := q) (h := h) (by omega)
      have c2 := fun h => cmp_run (a := q) (b := p) (h := h) (by omega)
      have b1 := fun h => bel_run (a := p) (b := q) (h := h) (by omega)
      have hneg : IntKind.i64.wrap (0 - cmpL q p) = cmpL p q := by
        have := cmpL_rng q p
        rw [cmpL_neg p q, w64 (by omega) (by omega)]; omega
      have hnn : (cmpL p q == cmpL p q) = true := by simp
      have he : ((cmpL p q == 0) == decide (p = q)) = true := by
        have := cmpL_0 p q
        by_cases h : p = q
        · rw [decide_eq_true h, this.2 h]; rfl
        · have h0 : (cmpL p q == 0) = false := by simpa using mt this.1 h
          rw [decide_eq_false h, h0]; rfl
      have hb : belP p q = false ∨ (belP p q = true ∧ (cmpL q p == -1) = true) := by
        cases h : belP p q with
        | false => exact .inl rfl
        | true => exact .inr ⟨rfl, by rw [belP_cmp h]; rfl⟩
      have k1 := fun h => chi_run (l := p) (n := n) (h := h) (by omega)
      unfold chiP at k1
      cases hc : rigP (p ++ [n]) with
      | false =>
        rw [hc, if_neg (by simp)] at k1
        rcases hb with hb | ⟨hb, hb2⟩
        · rw [hb] at b1
          simp (maxSteps := 8000000) -implicitDefEqProofs (disch := (refine id_ok ?_; first | assumption | omega | (simp only [go_sem, List.size_toArray, List.length_map, List.length_append, List.length_take, List.length_drop, List.length_cons, List.length_nil, mrLL_app, keyD_i, keyD_s, keyD_b, Nat.reduceAdd, Nat.reduceEqDiff, Nat.reduceLeDiff] <;> omega) | with_unfolding_all rfl | decide)) only [go_sem, Nat.reduceAdd, Nat.reduceSub, Nat.reduceMul, Nat.reduceLeDiff, Nat.reduceEqDiff, Nat.reduceBEq, reduceIte, reduceCtorEq, c_regencylaw08_PathBack, first08, h1, h2, h3, h4, h5, h6, h7, h8, s1, s2, c1, c2, b1, hneg, hnn, he, k1]
        · rw [hb] at b1
          simp (maxSteps := 8000000) -implicitDefEqProofs (disch := (refine id_ok ?_; first | assumption | omega | (simp only [go_sem, List.size_toArray, List.length_map, List.length_append, List.length_take, List.length_drop, List.length_cons, List.length_nil, mrLL_app, keyD_i, keyD_s, keyD_b, Nat.reduceAdd, Nat.reduceEqDiff, Nat.reduceLeDiff] <;> omega) | with_unfolding_all rfl | decide)) only [go_sem, Nat.reduceAdd, Nat.reduceSub, Nat.reduceMul, Nat.reduceLeDiff, Nat.reduceEqDiff, Nat.reduceBEq, reduceIte, reduceCtorEq, c_regencylaw08_PathBack, first08, h1, h2, h3, h4, h5, h6, h7, h8, s1, s2, c1, c2, b1, hneg, hnn, he, k1, hb2]
      | true =>
        rw [hc, if_pos rfl] at k1
        have k2 := fun h => par_run (l := p) (x := n) (h := h) (by omega)
        have k3 := fun h => bel_run (a := p ++ [n]) (b := p) (h := h) (by simp; omega)
        rw [belP_chi] at k3
        have k4 := fun h => cmp_run (a := p) (b := p ++ [n]) (h := h) (by omega)
        rw [cmpL_app p [n] (by simp)] at k4
        rcases hb with hb | ⟨hb, hb2⟩
        · rw [hb] at b1
          simp (maxSteps := 8000000) -implicitDefEqProofs (disch := (refine id_ok ?_; first | assumption | omega | (simp only [go_sem, List.size_toArray, List.length_map, List.length_append, List.length_take, List.length_drop, List.length_cons, List.length_nil, mrLL_app, keyD_i, keyD_s, keyD_b, Nat.reduceAdd, Nat.reduceEqDiff, Nat.reduceLeDiff] <;> omega) | with_unfolding_all rfl | decide)) only [go_sem, Nat.reduceAdd, Nat.reduceSub, Nat.reduceMul, Nat.reduceLeDiff, Nat.reduceEqDiff, Nat.reduceBEq, reduceIte, reduceCtorEq, c_regencylaw08_PathBack, first08, h1, h2, h3, h4, h5, h6, h7, h8, s1, s2, c1, c2, b1, hneg, hnn, he, k1, k2, k3, k4]
        · rw [hb] at b1
          simp (maxSteps := 8000000) -implicitDefEqProofs (disch := (refine id_ok ?_; first | assumption | omega | (simp only [go_sem, List.size_toArray, List.length_map, List.length_append, List.length_take, List.length_drop, List.length_cons, List.length_nil, mrLL_app, keyD_i, keyD_s, keyD_b, Nat.reduceAdd, Nat.reduceEqDiff, Nat.reduceLeDiff] <;> omega) | with_unfolding_all rfl | decide)) only [go_sem, Nat.reduceAdd, Nat.reduceSub, Nat.reduceMul, Nat.reduceLeDiff, Nat.reduceEqDiff, Nat.reduceBEq, reduceIte, reduceCtorEq, c_regencylaw08_PathBack, first08, h1, h2, h3, h4, h5, h6, h7, h8, s1, s2, c1, c2, b1, hneg, hnn, he, k1, k2, k3, k4, hb2]
end Go.Proofs.YtjeigcnaalleiaaDoor.L
