/- ChunkHeaps: the script. -/
import Derived.Test.YtgmhbncbmpahjaaL93
set_option linter.all false
set_option maxRecDepth 100000
namespace Go.Proofs.Ytgmhbncbmpahjaa.L
open Go.Proofs.Ytgmhbncbmpahjaa.M Go.Proofs.Ytgmhbncbmpahjaa.F Go.Proofs

section
variable {l s d : Int} {n a b : Nat}
/-- What is compared behind each step: heaps as they stand; the op's box. -/
theorem tail_eq {H : AH} {es : Es} {hs : List Bool} {ps : List (List UInt8)} (hr : rightP l s d) (hn : (n : Int) = cnt l s d) (hn5 : n ≤ 5000) (g : Good l s d n a b H es hs ps) (i : Int) :
    run T 13 [.box 3 0] H = some (.tup [ow ((bysR d hs ps).1.map encB), .int .i64 (bysR d hs ps).2], H) ∧
    run T 14 [.box 7 0] H = some (.tup [.str ⟨(bysR d hs ps).1.toArray⟩, .int .i64 (bysR d hs ps).2], H) ∧
    run T 8 [.box 3 0] H = some (.int .i64 (cnt l s d - es.length), H) ∧ run T 15 [.box 7 0] H = some (.int .i64 (cnt l s d - es.length), H) ∧
    run T 9 [.box 3 0, .int .i64 i] H = some (.int .i64 (nx hs i), H) ∧ run T 16 [.box 7 0, .int .i64 i] H = some (.int .i64 (nx hs i), H) ∧ (bysR d hs ps).1.length ≤ 3000000 := by
  have hca := cnt_add hs
  have hct := g.rel.ct
  have hhl := g.rel.hl
  have hm := rmiss_run g.hr (by omega)
  rw [show ((hs.count false : Nat) : Int) = cnt l s d - es.length by omega] at hm
  have hx := next_run (i := i) g.hp hr (by omega)
  rw [next_eq g.rel hn] at hx
  have hfl := flat_len g.sz
  have hpl := g.rel.pl
  refine ⟨pby_run g.hp hr g.rel hn g.sz hn5, rby_run g.hr g.sz hn5, missing_run g.hp hr (by omega), hm, hx, rnext_run g.hr (by omega), ?_⟩
  unfold bysR
  split
  · simp
  · split
    · simp
    · simp only; omega
set_option maxHeartbeats 32000000 in
theorem hp_loop {B : List UInt8} {ops : List Op3} (hB : B.length ≤ 2000) (hab : (a = 5 ∧ b = 6) ∨ (a = 6 ∧ b = 5)) (hr : rightP l s d) (hn : (n : Int) = cnt l s d) (hn5 : n ≤ 5000) :
    ∀ (dd j : Nat) (H : AH) (es : Es) (hs : List Bool) (ps : List (List UInt8)), dd + j = ops.length → Good l s d n a b H es hs ps →
    ∃ e σ h', den T (.loop l_regencylaw19_ChunkHeaps_0) (s_regencylaw19_ChunkHeaps_0 (.sl .sh (B.map encB)) (.box 0 0) (.box 3 0) (.box 7 0) (.sl .sh (ops.map encO3)) (.int .i64 ops.length) (.int .i64 j)) H = some (e, σ, h') ∧
      ((e = .exit 0 ∧ σ = x_regencylaw19_ChunkHeaps_0) ∨ (e = .ret ∧ σ.getD 6 undefA = .bool true)) := by
  intro dd
  induction dd with
  | zero =>
    intro j H es hs ps hd g
    have hd' : decide ((j : Int) < ops.length) = false := decide_eq_false (by omega)
    refine ⟨.exit 0, _, H, ?_, .inl ⟨rfl, rfl⟩⟩
    rw [lp_round]
    simp -implicitDefEqProofs (disch := (refine id_ok ?_; first | assumption | omega | (simp only [go_sem, List.size_toArray, List.length_map, List.length_append, List.length_take, List.length_drop, List.length_cons, List.length_nil, mrLL_app, keyD_i, keyD_s, keyD_b, Nat.reduceAdd, Nat.reduceEqDiff, Nat.reduceLeDiff] <;> omega) | with_unfolding_all rfl | decide)) only [go_sem, Nat.reduceAdd, Nat.reduceSub, Nat.reduceMul, Nat.reduceLeDiff, Nat.reduceEqDiff, Nat.reduceBEq, reduceIte, reduceCtorEq, hd']
  | succ dd ih =>
    intro j H es hs ps hd g
    have hjl : j < ops.length := by omega
    have hd' : decide ((j : Int) < ops.length) = true := decide_eq_true (by omega)
    have hge : (ops.map encO3)[(j : Int).toNat]? = some (encO3 ops[j]) := by simp [hjl]
    generalize ops[j] = o at *
    obtain ⟨k, i, c⟩ := o
    simp only [encO3] at hge
    by_cases h60 : (j : Int) ≥ 60
    · have d1 : decide ((j : Int) ≥ 60) = true := decide_eq_true h60
      rw [lp_round]
      simp (maxSteps := 4000000) -implicitDefEqProofs (disch := (refine id_ok ?_; first | assumption | omega | (simp only [go_sem, List.size_toArray, List.length_map, List.length_append, List.length_take, List.length_drop, List.length_cons, List.length_nil, mrLL_app, keyD_i, keyD_s, keyD_b, Nat.reduceAdd, Nat.reduceEqDiff, Nat.reduceLeDiff] <;> omega) | with_unfolding_all rfl | decide)) only [go_sem, Nat.reduceAdd, Nat.reduceSub, Nat.reduceMul, Nat.reduceLeDiff, Nat.reduceEqDiff, Nat.reduceBEq, reduceIte, reduceCtorEq, hd', hge, d1, hp_get_new, hp_set_new]
      exact ⟨_, _, _, ⟨rfl, rfl, rfl⟩, .inr ⟨rfl, rfl⟩⟩
    have d1 : decide ((j : Int) ≥ 60) = false := decide_eq_false h60
    have e7 := inc91 (n := j) (by omega)
    by_cases h1000 : (c.length : Int) > 1000
    · have d2 : decide ((c.length : Int) > 1000) = true := decide_eq_true h1000
      rw [lp_round]
      simp (maxSteps := 4000000) -implicitDefEqProofs (disch := (refine id_ok ?_; first | assumption | omega | (simp only [go_sem, List.size_toArray, List.length_map, List.length_append, List.length_take, List.length_drop, List.length_cons, List.length_nil, mrLL_app, keyD_i, keyD_s, keyD_b, Nat.reduceAdd, Nat.reduceEqDiff, Nat.reduceLeDiff] <;> omega) | with_unfolding_all rfl | decide)) only [go_sem, Nat.reduceAdd, Nat.reduceSub, Nat.reduceMul, Nat.reduceLeDiff, Nat.reduceEqDiff, Nat.reduceBEq, reduceIte, reduceCtorEq, hd', hge, d1, d2, hp_get_new, hp_set_new, List.length_map]
      exact ⟨_, _, _, ⟨rfl, rfl, rfl⟩, .inr ⟨rfl, rfl⟩⟩
    have d2 : decide ((c.length : Int) > 1000) = false := decide_eq_false h1000
    have g1 := good_app (J := [Bx.cells [.int .i64 k, .int .i64 i, .sl .sh (c.map encB)]]) g
    have hlen := g.len
    have hHl : (H ++ [Bx.cells [.int .i64 k, .int .i64 i, .sl .sh (c.map encB)]])[H.length]? = some (.cells [.int .i64 k, .int .i64 i, .sl .sh (c.map encB)]) := hp_get_new
    have g0 := g1.h0
    have hfin : ∀ (H2 : AH) (es2 : Es) (hs2 : List Bool) (ps2 : List (List UInt8)), Good l s d n a b H2 es2 hs2 ps2 →
        den T (.loop l_regencylaw19_ChunkHeaps_0) (s_regencylaw19_ChunkHeaps_0 (.sl .sh (B.map encB)) (.box 0 0) (.box 3 0) (.box 7 0) (.sl .sh (ops.map encO3)) (.int .i64 ops.length) (.int .i64 j)) H = den T (.loop l_regencylaw19_ChunkHeaps_0) (s_regencylaw19_ChunkHeaps_0 (.sl .sh (B.map encB)) (.box 0 0) (.box 3 0) (.box 7 0) (.sl .sh (ops.map encO3)) (.int .i64 ops.length) (.int .i64 (j + 1 : Nat))) H2 →
        ∃ e σ h', den T (.loop l_regencylaw19_ChunkHeaps_0) (s_regencylaw19_ChunkHeaps_0 (.sl .sh (B.map encB)) (.box 0 0) (.box 3 0) (.box 7 0) (.sl .sh (ops.map encO3)) (.int .i64 ops.length) (.int .i64 j)) H = some (e, σ, h') ∧
          ((e = .exit 0 ∧ σ = x_regencylaw19_ChunkHeaps_0) ∨ (e = .ret ∧ σ.getD 6 undefA = .bool true)) := by
      intro H2 es2 hs2 ps2 G2 hstep
      rw [hstep]
      exact ih (j + 1) H2 es2 hs2 ps2 (by omega) G2
    have x1 : ∀ z : Int, (z != z) = false := fun z => by simp
    have x2 : ∀ z : List UInt8, (z == z) = true := fun z => by simp
    cases k1 : ((IntKind.u64.wrap k).tmod 3 == 1) with
    | true =>
      obtain ⟨cc, ok, hcut, hccl⟩ := cut_any (s := s) (i := i) hB
      obtain ⟨r, H', H2, es2, hs2, ps2, p1, p2, G2, L2, hu⟩ := put_both hab hr hn g1 i cc (by omega)
      obtain ⟨u1, u2⟩ := hu H.length (by omega) (by omega) (by omega)
      rw [hHl] at u1 u2
      obtain ⟨tl1, tl2, tl3, tl4, tl5, tl6, tl7⟩ := tail_eq hr hn hn5 G2 i
      have g2 := G2.h0
      refine hfin H2 es2 hs2 ps2 G2 ?_
      generalize (bysR d hs2 ps2).1 = Y at *
      generalize (bysR d hs2 ps2).2 = y at *
      generalize nx hs2 i = z at *
      generalize cnt l s d - (es2.length : Int) = w at *
      rw [lp_round]
      simp (maxSteps := 8000000) -implicitDefEqProofs (disch := (refine id_ok ?_; first | assumption | omega | (simp only [go_sem, List.size_toArray, List.length_map, List.length_append, List.length_take, List.length_drop, List.length_cons, List.length_nil, mrLL_app, keyD_i, keyD_s, keyD_b, Nat.reduceAdd, Nat.reduceEqDiff, Nat.reduceLeDiff] <;> omega) | with_unfolding_all rfl | decide)) only [go_sem, Nat.reduceAdd, Nat.reduceSub, Nat.reduceMul, Nat.reduceLeDiff, Nat.reduceEqDiff, Nat.reduceBEq, reduceIte, reduceCtorEq, hd', hge, d1, d2, hp_get_new, hp_set_new, List.length_map, k1, g0, g2, hHl, u1, u2, hcut, p1, p2, tl1, tl2, tl3, tl4, tl5, tl6, x1, x2, toList_mk, Bool.not_true, e7]
      try rfl
    | false =>
      cases k0 : ((IntKind.u64.wrap k).tmod 3 == 0) with
      | true =>
        obtain ⟨r, H', H2, es2, hs2, ps2, p1, p2, G2, L2, hu⟩ := put_both hab hr hn g1 i c (by omega)
        obtain ⟨u1, u2⟩ := hu H.length (by omega) (by omega) (by omega)
        rw [hHl] at u1 u2
        obtain ⟨tl1, tl2, tl3, tl4, tl5, tl6, tl7⟩ := tail_eq hr hn hn5 G2 i
        have g2 := G2.h0
        refine hfin H2 es2 hs2 ps2 G2 ?_
        generalize (bysR d hs2 ps2).1 = Y at *
        generalize (bysR d hs2 ps2).2 = y at *
        generalize nx hs2 i = z at *
        generalize cnt l s d - (es2.length : Int) = w at *
        rw [lp_round]
        simp (maxSteps := 8000000) -implicitDefEqProofs (disch := (refine id_ok ?_; first | assumption | omega | (simp only [go_sem, List.size_toArray, List.length_map, List.length_append, List.length_take, List.length_drop, List.length_cons, List.length_nil, mrLL_app, keyD_i, keyD_s, keyD_b, Nat.reduceAdd, Nat.reduceEqDiff, Nat.reduceLeDiff] <;> omega) | with_unfolding_all rfl | decide)) only [go_sem, Nat.reduceAdd, Nat.reduceSub, Nat.reduceMul, Nat.reduceLeDiff, Nat.reduceEqDiff, Nat.reduceBEq, reduceIte, reduceCtorEq, hd', hge, d1, d2, hp_get_new, hp_set_new, List.length_map, k1, k0, g0, g2, hHl, u1, u2, p1, p2, tl1, tl2, tl3, tl4, tl5, tl6, x1, x2, toList_mk, Bool.not_true, e7]
        try rfl
      | false =>
        obtain ⟨tl1, tl2, tl3, tl4, tl5, tl6, tl7⟩ := tail_eq hr hn hn5 g1 i
        refine hfin _ es hs ps g1 ?_
        generalize (bysR d hs ps).1 = Y at *
        generalize (bysR d hs ps).2 = y at *
        generalize nx hs i = z at *
        generalize cnt l s d - (es.length : Int) = w at *
        rw [lp_round]
        simp (maxSteps := 8000000) -implicitDefEqProofs (disch := (refine id_ok ?_; first | assumption | omega | (simp only [go_sem, List.size_toArray, List.length_map, List.length_append, List.length_take, List.length_drop, List.length_cons, List.length_nil, mrLL_app, keyD_i, keyD_s, keyD_b, Nat.reduceAdd, Nat.reduceEqDiff, Nat.reduceLeDiff] <;> omega) | with_unfolding_all rfl | decide)) only [go_sem, Nat.reduceAdd, Nat.reduceSub, Nat.reduceMul, Nat.reduceLeDiff, Nat.reduceEqDiff, Nat.reduceBEq, reduceIte, reduceCtorEq, hd', hge, d1, d2, hp_get_new, hp_set_new, List.length_map, k1, k0, g0, hHl, tl1, tl2, tl3, tl4, tl5, tl6, x1, x2, toList_mk, Bool.not_true, e7]
        try rfl
end
end Go.Proofs.Ytgmhbncbmpahjaa.L
