/- The document's path read; PathGets: the law (the order of its two new boxes is drawn: each order walked to the end). -/
import Derived.Test.YtjeigcnaalleiaaDoorL74
import Derived.Test.YtjeigcnaalleiaaDoorL77
import Derived.Test.YtjeigcnaalleiaaDoorL69
import Derived.Test.YtjeigcnaalleiaaDoorM23
set_option linter.all false
set_option maxRecDepth 100000
namespace Go.Proofs.YtjeigcnaalleiaaDoor.L
open Go.Proofs.YtjeigcnaalleiaaDoor.M Go.Proofs.YtjeigcnaalleiaaDoor.F Go.Proofs

theorem getP_ok : ∀ (k : Nat) (s : TS), okS0 s → okS0 (getP k s).2
  | 0, s, h => h
  | k + 1, s, h => by rw [getP]; exact getP_ok k _ (tapN_ok h)
theorem rget8_loop {t : Nat} {h : AH} (ht : t < h.length) {n : Nat} (hn : n ≤ 1000) : ∀ (d i : Nat) (s : TS) (a : List Int), d + i = n → okS0 s → s.1.length ≤ 1000000000 → a.length ≤ i →
    den T (.loop l_regencyref08_Get_0) (s_regencyref08_Get_0 (.box t 0) (ow (a.map encI)) (.int .i64 n) (.int .i64 i)) (h.set t (Tr s)) = some (.exit 0, x_regencyref08_Get_0 (.box t 0) (ow ((a ++ (getP d s).1).map encI)), h.set t (Tr (getP d s).2)) := by
  intro d
  induction d with
  | zero =>
    intro i s a hd ho hs ha
    have hd' : decide ((i : Int) < n) = false := decide_eq_false (by omega)
    simp only [getP, List.append_nil]
    rw [lp_round]
    simp -implicitDefEqProofs (disch := (refine id_ok ?_; first | assumption | omega | (simp only [go_sem, List.size_toArray, List.length_map, List.length_append, List.length_take, List.length_drop, List.length_cons, List.length_nil, mrLL_app, keyD_i, keyD_s, keyD_b, Nat.reduceAdd, Nat.reduceEqDiff, Nat.reduceLeDiff] <;> omega) | with_unfolding_all rfl | decide)) only [go_sem, Nat.reduceAdd, Nat.reduceSub, Nat.reduceMul, Nat.reduceLeDiff, Nat.reduceEqDiff, Nat.reduceBEq, reduceIte, reduceCtorEq, hd']
  | succ d ih =>
    intro i s a hd ho hs ha
    have hd' : decide ((i : Int) < n) = true := decide_eq_true (by omega)
    have l1 := tapN_len 1048576 s
    have t1 := rtn_run (g := 1048576) (s := s) (show (h.set t (Tr s))[t]? = some (Tr s) from List.getElem?_set_self ht) ho hs
    rw [List.set_set] at t1
    simp only [show ((1048576 : Nat) : Int) = 1048576 from rfl] at t1
    have e7 := incP (n := i) (by omega)
    have ih' := ih (i + 1) (tapN 1048576 s).2 (a ++ [((tapN 1048576 s).1 : Int)]) (by omega) (tapN_ok ho) (by omega) (by simp; omega)
    simp only [getP]
    generalize tapN 1048576 s = x at *
    have e1 : (a ++ [(x.1 : Int)]).map encI = a.map encI ++ [[.int .i64 (x.1 : Int)]] := by simp [encI]
    rw [List.append_assoc, List.singleton_append] at ih'
    rw [e1] at ih'
    rw [lp_round]
    simp (maxSteps := 2000000) -implicitDefEqProofs (disch := (refine id_ok ?_; first | assumption | omega | (simp only [go_sem, List.size_toArray, List.length_map, List.length_append, List.length_take, List.length_drop, List.length_cons, List.length_nil, mrLL_app, keyD_i, keyD_s, keyD_b, Nat.reduceAdd, Nat.reduceEqDiff, Nat.reduceLeDiff] <;> omega) | with_unfolding_all rfl | decide)) only [go_sem, Nat.reduceAdd, Nat.reduceSub, Nat.reduceMul, Nat.reduceLeDiff, Nat.reduceEqDiff, Nat.reduceBEq, reduceIte, reduceCtorEq, hd', t1, e7]
    exact ih'
theorem rget8_run {t : Nat} {s : TS} {h : AH} (ht : h[t]? = some (Tr s)) (ho : okS0 s) (hs : s.1.length ≤ 1000000000) :
    run T 10 [.box t 0] h = some (.tup [ow ((gtP s).1.map encI), .int .i64 (gtP s).2.1], h.set t (Tr (gtP s).2.2)) := by
  have hlt : t < h.length := (List.getElem?_eq_some_iff.1 ht).1
  have t1 := rtn_run (g := 6) ht ho hs
  simp only [show ((6 : Nat) : Int) = 6 from rfl] at t1
  have l1 := tapN_len 6 s
  have l2 := tapN_le 6 s
  have h2 := rget8_loop (h := h) hlt (n := (tapN 6 s).1) (by omega) (tapN 6 s).1 0 (tapN 6 s).2 [] (by omega) (tapN_ok ho) (by omega) (by simp)
  have hok := getP_ok (tapN 6 s).1 _ (tapN_ok (g := 6) ho)
  simp only [show ((0 : Nat) : Int) = 0 from rfl, List.nil_append, List.map_nil] at h2
  rw [run_code T_10]
  unfold gtP
  generalize getP (tapN 6 s).1 (tapN 6 s).2 = r at *
  have h3 : (h.set t (Tr r.2))[t]? = some (Tr r.2) := List.getElem?_set_self hlt
  obtain ⟨a, b, e⟩ := r
  simp only at h2 h3 hok ⊢
  have hld : loadB none 1 (some (Tr (b, e))) = some (.int .i64 (cdO e)) := rfl
  cases e with
  | none =>
    rw [if_pos rfl]
    simp (maxSteps := 2000000) -implicitDefEqProofs (disch := (refine id_ok ?_; first | assumption | omega | (simp only [go_sem, List.size_toArray, List.length_map, List.length_append, List.length_take, List.length_drop, List.length_cons, List.length_nil, mrLL_app, keyD_i, keyD_s, keyD_b, Nat.reduceAdd, Nat.reduceEqDiff, Nat.reduceLeDiff] <;> omega) | with_unfolding_all rfl | decide)) only [go_sem, Nat.reduceAdd, Nat.reduceSub, Nat.reduceMul, Nat.reduceLeDiff, Nat.reduceEqDiff, Nat.reduceBEq, reduceIte, reduceCtorEq, c_regencyref08_Get, t1, h2, h3, hld, cdO, Option.getD_none, show ((0 : Int) != 0) = false from rfl]
  | some c =>
    have hc : (c != 0) = true := by simp only [okS0, ne_eq, Option.some.injEq] at hok; simpa using hok
    rw [if_neg (by simp)]
    simp (maxSteps := 2000000) -implicitDefEqProofs (disch := (refine id_ok ?_; first | assumption | omega | (simp only [go_sem, List.size_toArray, List.length_map, List.length_append, List.length_take, List.length_drop, List.length_cons, List.length_nil, mrLL_app, keyD_i, keyD_s, keyD_b, Nat.reduceAdd, Nat.reduceEqDiff, Nat.reduceLeDiff] <;> omega) | with_unfolding_all rfl | decide)) only [go_sem, Nat.reduceAdd, Nat.reduceSub, Nat.reduceMul, Nat.reduceLeDiff, Nat.reduceEqDiff, Nat.reduceBEq, reduceIte, reduceCtorEq, c_regencyref08_Get, t1, h2, h3, hld, cdO, Option.getD_some, hc, List.map_nil]
theorem left_run {t : Nat} {s : TS} {h : AH} (ht : h[t]? = some (Tb s)) : run T 12 [.box t 0] h = some (.int .i64 (s.1.length : Nat), h) := by
  rw [run_code T_12]
  simp only [Tb, Tp] at ht
  simp -implicitDefEqProofs (disch := (refine id_ok ?_; first | assumption | omega | (simp only [go_sem, List.size_toArray, List.length_map, List.length_append, List.length_take, List.length_drop, List.length_cons, List.length_nil, mrLL_app, keyD_i, keyD_s, keyD_b, Nat.reduceAdd, Nat.reduceEqDiff, Nat.reduceLeDiff] <;> omega) | with_unfolding_all rfl | decide)) only [go_sem, Nat.reduceAdd, Nat.reduceSub, Nat.reduceMul, Nat.reduceLeDiff, Nat.reduceEqDiff, Nat.reduceBEq, reduceIte, reduceCtorEq, c_tape_Tape_Left, ht, List.length_map]
theorem gtP_len (s : TS) : (gtP s).1.length ≤ 6 := by
  have h1 := (getP_len (tapN 6 s).1 (tapN 6 s).2).2
  have h2 := tapN_le 6 s
  unfold gtP
  split
  · simp only; omega
  · simp
set_option maxHeartbeats 16000000 in
theorem pgets_dv {b : List UInt8} : dv T c_regencylaw08_PathGets.body ([.sl .sh (b.map encB)] ++ List.replicate (c_regencylaw08_PathGets.ntmps - [AV.sl .sh (b.map encB)].length) undefA) [] (endB c_regencylaw08_PathGets true) := by
  by_cases h3 : (b.length : Int) > 300
  · have e1 : decide ((b.length : Int) > 300) = true := decide_eq_true h3
    simp (maxSteps := 4000000) -implicitDefEqProofs (disch := (refine id_ok ?_; first | assumption | omega | (simp only [go_sem, List.size_toArray, List.length_map, List.length_append, List.length_take, List.length_drop, List.length_cons, List.length_nil, mrLL_app, keyD_i, keyD_s, keyD_b, Nat.reduceAdd, Nat.reduceEqDiff, Nat.reduceLeDiff] <;> omega) | with_unfolding_all rfl | decide)) only [go_sem, Nat.reduceAdd, Nat.reduceSub, Nat.reduceMul, Nat.reduceLeDiff, Nat.reduceEqDiff, Nat.reduceBEq, reduceIte, reduceCtorEq, c_regencylaw08_PathGets, first08, List.length_map, e1]
  have e1 : decide ((b.length : Int) > 300) = false := decide_eq_false h3
  have h1 := tnew_run (b := b) (h := []) (by omega)
  have h2 := tnew_run (b := b) (h := [Bx.cells [.str ⟨b.toArray⟩, .int .i64 0]]) (by omega)
  simp only [List.length_nil, List.nil_append, List.length_cons, Nat.zero_add, List.singleton_append] at h1 h2
  have hTr : Bx.cells [.str ⟨b.toArray⟩, .int .i64 0] = Tr (b, none) := rfl
  rw [hTr] at h2
  have o0 : okS0 (b, none) := fun q => by cases q
  have a1 := pget_run (t := 0) (s := (b, none)) (h := [Tb (b, none), Tr (b, none)]) rfl (by simp only; omega)
  have a2 := rget8_run (t := 1) (s := (b, none)) (h := [Tb (gtP (b, none)).2.2, Tr (b, none)]) rfl o0 (by simp only; omega)
  have a3 := left_run (t := 0) (s := (gtP (b, none)).2.2) (h := [Tb (gtP (b, none)).2.2, Tr (gtP (b, none)).2.2]) rfl
  have b1 := pget_run (t := 1) (s := (b, none)) (h := [Tr (b, none), Tb (b, none)]) rfl (by simp only; omega)
  have b2 := rget8_run (t := 0) (s := (b, none)) (h := [Tr (b, none), Tb (gtP (b, none)).2.2]) rfl o0 (by simp only; omega)
  have b3 := left_run (t := 1) (s := (gtP (b, none)).2.2) (h := [Tr (gtP (b, none)).2.2, Tb (gtP (b, none)).2.2]) rfl
  have hl := gtP_len (b, none)
  generalize gtP (b, none) = r at *
  obtain ⟨p, n, s⟩ := r
  simp only [List.set_cons_zero, List.set_cons_succ] at *
  have s1 := fun h => sm8_run (a := p) (b := p) (h := h) (by omega)
  rw [decide_eq_true rfl] at s1
  have e2 : (n == n) = true := by simp
  have e3 : ((s.1.length : Int) == (s.1.length : Int)) = true := by simp
  have hTr2 : ∀ s : TS, loadB none 0 (some (Tr s)) = some (.str ⟨s.1.toArray⟩) := fun _ => rfl
  simp (maxSteps := 8000000) -implicitDefEqProofs (disch := (refine id_ok ?_; first | assumption | omega | (simp only [go_sem, List.size_toArray, List.length_map, List.length_append, List.length_take, List.length_drop, List.length_cons, List.length_nil, mrLL_app, keyD_i, keyD_s, keyD_b, Nat.reduceAdd, Nat.reduceEqDiff, Nat.reduceLeDiff] <;> omega) | with_unfolding_all rfl | decide)) only [go_sem, Nat.reduceAdd, Nat.reduceSub, Nat.reduceMul, Nat.reduceLeDiff, Nat.reduceEqDiff, Nat.reduceBEq, reduceIte, reduceCtorEq, c_regencylaw08_PathGets, first08, List.length_map, e1, h1, h2, hTr, a1, a2, a3, b1, b2, b3, s1, e2, e3, hTr2]
end Go.Proofs.YtjeigcnaalleiaaDoor.L
