/- PathTells: the law. -/
import Derived.Test.YtjeigcnaalleiaaDoorL77
import Derived.Test.YtjeigcnaalleiaaDoorL79
set_option linter.all false
set_option maxRecDepth 100000
namespace Go.Proofs.YtjeigcnaalleiaaDoor.L
open Go.Proofs.YtjeigcnaalleiaaDoor.M Go.Proofs.YtjeigcnaalleiaaDoor.F Go.Proofs

theorem prsP_len (s : List UInt8) : (prsP s).1.length ≤ 6 := by
  unfold prsP
  split
  · simp
  · split
    · simp
    · split
      · rename_i h; exact (rigP_all h.1).1
      · simp
theorem i64L_inI {l : List Int} (h : i64L l) : inI l = true := by
  unfold inI
  rw [List.all_eq_true]
  intro x hx
  have := h x hx
  simp; omega
set_option maxHeartbeats 32000000 in
theorem ptells_run {p : List Int} {s : List UInt8} {n : Int} (hi : i64L p) : run T 4 [.sl .sh (p.map encI), .str ⟨s.toArray⟩, .int .i64 n] [] = some (.bool true, []) := by
  rw [run_code T_4]
  by_cases g1 : (p.length : Int) > 100
  · have d1 : decide ((p.length : Int) > 100) = true := decide_eq_true g1
    simp (maxSteps := 4000000) -implicitDefEqProofs (disch := (refine id_ok ?_; first | assumption | omega | (simp only [go_sem, List.size_toArray, List.length_map, List.length_append, List.length_take, List.length_drop, List.length_cons, List.length_nil, mrLL_app, keyD_i, keyD_s, keyD_b, Nat.reduceAdd, Nat.reduceEqDiff, Nat.reduceLeDiff] <;> omega) | with_unfolding_all rfl | decide)) only [go_sem, Nat.reduceAdd, Nat.reduceSub, Nat.reduceMul, Nat.reduceLeDiff, Nat.reduceEqDiff, Nat.reduceBEq, reduceIte, reduceCtorEq, c_regencylaw08_PathTells, first08, List.length_map, d1]
  have d1 : decide ((p.length : Int) > 100) = false := decide_eq_false g1
  by_cases g2 : (s.length : Int) > 300
  · have d2 : decide ((s.length : Int) > 300) = true := decide_eq_true g2
    simp (maxSteps := 4000000) -implicitDefEqProofs (disch := (refine id_ok ?_; first | assumption | omega | (simp only [go_sem, List.size_toArray, List.length_map, List.length_append, List.length_take, List.length_drop, List.length_cons, List.length_nil, mrLL_app, keyD_i, keyD_s, keyD_b, Nat.reduceAdd, Nat.reduceEqDiff, Nat.reduceLeDiff] <;> omega) | with_unfolding_all rfl | decide)) only [go_sem, Nat.reduceAdd, Nat.reduceSub, Nat.reduceMul, Nat.reduceLeDiff, Nat.reduceEqDiff, Nat.reduceBEq, reduceIte, reduceCtorEq, c_regencylaw08_PathTells, first08, List.length_map, d1, d2]
  have d2 : decide ((s.length : Int) > 300) = false := decide_eq_false g2
  have h1 := prs_run (s := s) (by omega)
  have h2 := fun h => rq8_run (s := s) (h := h) (by omega)
  have hq6 := prsP_len s
  generalize prsP s = q at *
  obtain ⟨q, ok⟩ := q
  simp only at h1 h2 hq6
  have h3 := fun h => rigP_run (l := p) (h := h)
  have h4 := fun h => rr8_run (l := p) (h := h) (by omega)
  have h5 := fun h => ptx_run (l := p) (h := h) (by omega) (i64L_inI hi)
  have h6 := fun h => rt8_run (l := p) (h := h) (by omega) hi
  have h7 := fun h => sm8_run (a := q) (b := q) (h := h) (by omega)
  rw [decide_eq_true rfl] at h7
  have e1 : (rigP p == rigP p) = true := by simp
  have e2 : (dotT p == dotT p) = true := by simp
  have e3 : (ok == ok) = true := by simp
  have k1 := fun h => chi_run (l := p) (n := n) (h := h) (by omega)
  have k2 := fun h => rr8_run (l := p ++ [n]) (h := h) (by simp; omega)
  have k3 := fun h => sm8_run (a := p ++ [n]) (b := p ++ [n]) (h := h) (by simp; omega)
  rw [decide_eq_true rfl] at k3
  have hm : (p ++ [n]).map encI = p.map encI ++ [[.int .i64 n]] := by simp [encI]
  unfold chiP at k1
  rw [hm] at k1 k2 k3
  have h8 := pput_run (p := 0) (l := p) (b := []) (h := [Bx.cells [ow []]]) rfl (by omega) (by simp)
  rw [List.nil_append] at h8
  have hbl := bytA_len p (by omega)
  have h9 := pbytes_run (p := 0) (l := bytA p) (h := [Pn (bytA p)]) rfl (by omega)
  have h10 := fun h => rp8_run (l := p) (h := h) (by omega)
  have e4 : (bytA p == bytA p) = true := by simp
  generalize bytA p = B at *
  rcases List.eq_nil_or_concat p with hp | ⟨l, x, hp⟩
  · subst hp
    have k0 := fun h => par_nil (h := h)
    simp only [List.map_nil, List.length_nil, List.nil_append] at *
    have e5 : decide (((0 : Nat) : Int) > 0) = false := rfl
    have e6 : (((0 : Nat) : Int) != 0) = false := rfl
    have e7 : (((0 : Nat) : Int) == 0) = true := rfl
    cases hc : rigP [n] with
    | false =>
      rw [hc] at k2
      rw [hc, if_neg (by simp)] at k1
      simp (maxSteps := 8000000) -implicitDefEqProofs (disch := (refine id_ok ?_; first | assumption | omega | (simp only [go_sem, List.size_toArray, List.length_map, List.length_append, List.length_take, List.length_drop, List.length_cons, List.length_nil, mrLL_app, keyD_i, keyD_s, keyD_b, Nat.reduceAdd, Nat.reduceEqDiff, Nat.reduceLeDiff] <;> omega) | with_unfolding_all rfl | decide)) only [go_sem, Nat.reduceAdd, Nat.reduceSub, Nat.reduceMul, Nat.reduceLeDiff, Nat.reduceEqDiff, Nat.reduceBEq, reduceIte, reduceCtorEq, c_regencylaw08_PathTells, first08, List.length_map, d1, d2, h1, h2, h3, h4, h5, h6, h7, e1, e2, e3, k0, k1, k2, h8, h9, h10, e4, e5, e6, e7, List.map_nil, List.nil_append]
    | true =>
      rw [hc] at k2
      rw [hc, if_pos rfl] at k1
      simp (maxSteps := 8000000) -implicitDefEqProofs (disch := (refine id_ok ?_; first | assumption | omega | (simp only [go_sem, List.size_toArray, List.length_map, List.length_append, List.length_take, List.length_drop, List.length_cons, List.length_nil, mrLL_app, keyD_i, keyD_s, keyD_b, Nat.reduceAdd, Nat.reduceEqDiff, Nat.reduceLeDiff] <;> omega) | with_unfolding_all rfl | decide)) only [go_sem, Nat.reduceAdd, Nat.reduceSub, Nat.reduceMul, Nat.reduceLeDiff, Nat.reduceEqDiff, Nat.reduceBEq, reduceIte, reduceCtorEq, c_regencylaw08_PathTells, first08, List.length_map, d1, d2, h1, h2, h3, h4, h5, h6, h7, e1, e2, e3, k0, k1, k2, k3, h8, h9, h10, e4, e5, e6, e7, List.map_nil, List.nil_append]
  · rw [List.concat_eq_append] at hp
    have k0 := fun h => par_run (l := l) (x := x) (h := h) (by have := congrArg List.length hp; simp at this; omega)
    have hlen : p.length = l.length + 1 := by rw [hp]; simp
    have j1 : decide ((p.length : Int) > 0) = true := decide_eq_true (by omega)
    have j2 : IntKind.i64.wrap ((p.length : Int) - 1) = ((l.length : Nat) : Int) := by rw [w64 (by omega) (by omega)]; omega
    have j3 : (p.map encI)[((l.length : Int)).toNat]? = some [.int .i64 x] := by rw [hp, Int.toNat_natCast]; simp [encI]
    have j4 : (p.map encI).take ((l.length : Int)).toNat = l.map encI := by rw [hp, Int.toNat_natCast]; simp
    have j5 : (x != x) = false := by simp
    have j6 := fun h => sm8_run (a := l) (b := l) (h := h) (by omega)
    rw [decide_eq_true rfl] at j6
    have hsz : szOK 1 (p.map encI) = true := szOK_I
    rw [← hp] at k0
    have e7 : (((0 : Nat) : Int) == 0) = true := rfl
    have hmr : mrLL (p.map encI) = 0 := mrLL_I
    have hL : (p.map encI).length = p.length := List.length_map ..
    clear hp
    generalize p.map encI = L at *
    cases hc : rigP (p ++ [n]) with
    | false =>
      rw [hc] at k2
      rw [hc, if_neg (by simp)] at k1
      simp (maxSteps := 8000000) -implicitDefEqProofs (disch := (refine id_ok ?_; first | assumption | omega | (simp only [go_sem, List.size_toArray, List.length_map, List.length_append, List.length_take, List.length_drop, List.length_cons, List.length_nil, mrLL_app, keyD_i, keyD_s, keyD_b, Nat.reduceAdd, Nat.reduceEqDiff, Nat.reduceLeDiff] <;> omega) | with_unfolding_all rfl | decide)) only [go_sem, Nat.reduceAdd, Nat.reduceSub, Nat.reduceMul, Nat.reduceLeDiff, Nat.reduceEqDiff, Nat.reduceBEq, reduceIte, reduceCtorEq, c_regencylaw08_PathTells, first08, hL, d1, d2, h1, h2, h3, h4, h5, h6, h7, e1, e2, e3, k0, k1, k2, h8, h9, h10, e4, j1, j2, j3, j4, j5, j6, e7, hsz, hmr, drp0, false_and, List.nil_append]
    | true =>
      rw [hc] at k2
      rw [hc, if_pos rfl] at k1
      simp (maxSteps := 8000000) -implicitDefEqProofs (disch := (refine id_ok ?_; first | assumption | omega | (simp only [go_sem, List.size_toArray, List.length_map, List.length_append, List.length_take, List.length_drop, List.length_cons, List.length_nil, mrLL_app, keyD_i, keyD_s, keyD_b, Nat.reduceAdd, Nat.reduceEqDiff, Nat.reduceLeDiff] <;> omega) | with_unfolding_all rfl | decide)) only [go_sem, Nat.reduceAdd, Nat.reduceSub, Nat.reduceMul, Nat.reduceLeDiff, Nat.reduceEqDiff, Nat.reduceBEq, reduceIte, reduceCtorEq, c_regencylaw08_PathTells, first08, hL, d1, d2, h1, h2, h3, h4, h5, h6, h7, e1, e2, e3, k0, k1, k2, k3, h8, h9, h10, e4, j1, j2, j3, j4, j5, j6, e7, hsz, hmr, drp0, false_and, List.nil_append]
end Go.Proofs.YtjeigcnaalleiaaDoor.L
