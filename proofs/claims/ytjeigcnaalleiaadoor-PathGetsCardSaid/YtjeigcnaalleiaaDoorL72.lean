/- path.Parse. -/
import Derived.Test.YtjeigcnaalleiaaDoorL70
import Derived.Test.YtjeigcnaalleiaaDoorL71
set_option linter.all false
set_option maxRecDepth 100000
namespace Go.Proofs.YtjeigcnaalleiaaDoor.L
open Go.Proofs.YtjeigcnaalleiaaDoor.M Go.Proofs.YtjeigcnaalleiaaDoor.F Go.Proofs

def atoO (w : List UInt8) : Option Int := match Lib.atoiAll w with | .ok v => some v | _ => none
theorem atoR_some {w : List UInt8} {v : Int} {t : Nat} (h : atoO w = some v) : atoiR t w = .tup [.int .i64 v, .nili] := by
  unfold atoO at h
  unfold atoiR
  split at h <;> try (cases h; done)
  rename_i u hu
  cases h
  rw [hu]
theorem atoR_none {w : List UInt8} {t : Nat} (h : atoO w = none) : ∃ n, atoiR t w = .tup [.int .i64 n, .iface t .any] := by
  unfold atoO at h
  unfold atoiR
  cases hu : Lib.atoiAll w with
  | ok u => rw [hu] at h; cases h
  | range => exact ⟨_, rfl⟩
  | _ => exact ⟨_, rfl⟩
def HQ (p : List Int) (r : List UInt8) : AH := [.cells [ow []], .cells [.bool false], .cells [ow (p.map encI)], .cells [.str ⟨r.toArray⟩], .cells [.str ⟨#[46]⟩], .cells [.int .i64 0]]
def pthS : List Int → List (List UInt8) → Option (List Int)
  | acc, [] => some acc
  | acc, w :: ws => match atoO w with
    | some v => if acc.length ≠ 6 then pthS (acc ++ [v]) ws else none
    | none => none
/-- Where the reading of the parts ends. -/
def endQ : List Int → List (List UInt8 × List UInt8) → List Int × List UInt8
  | p, [] => (p, [])
  | p, [(x, r)] => match atoO x with
    | some v => if p.length ≠ 6 then (p ++ [v], r) else (p, r)
    | none => (p, r)
  | p, (x, r) :: y :: xs => match atoO x with
    | some v => if p.length ≠ 6 then endQ (p ++ [v]) (y :: xs) else (p, r)
    | none => (p, r)
def sQ (v0 v1 v5 v6 v7 v8 v9 v10 v11 v13 v14 v15 v16 v17 v18 v19 v20 v21 v22 v23 v24 v25 v26 v27 v28 v29 v30 v31 v32 v33 v34 v35 v36 v37 v38 v12 : AV) : List AV := [v0, v1, .box 0 0, .box 1 0, .box 2 0, v5, v6, v7, v8, v9, v10, v11, v12, v13, v14, v15, v16, v17, v18, v19, v20, v21, v22, v23, v24, v25, v26, v27, v28, v29, v30, v31, v32, v33, v34, v35, v36, v37, v38]
section
variable {v0 v1 v5 v6 v7 v8 v9 v10 v11 v13 v14 v15 v16 v17 v18 v19 v20 v21 v22 v23 v24 v25 v26 v27 v28 v29 v30 v31 v32 v33 v34 v35 v36 v37 v38 : AV}
theorem sQ_set {v12 : AV} {X : List UInt8} : (shL (sQ v0 v1 v5 v6 v7 v8 v9 v10 v11 v13 v14 v15 v16 v17 v18 v19 v20 v21 v22 v23 v24 v25 v26 v27 v28 v29 v30 v31 v32 v33 v34 v35 v36 v37 v38 v12)).set 12 (.str ⟨X.toArray⟩) = sQ (AV.sh v0) (AV.sh v1) (AV.sh v5) (AV.sh v6) (AV.sh v7) (AV.sh v8) (AV.sh v9) (AV.sh v10) (AV.sh v11) (AV.sh v13) (AV.sh v14) (AV.sh v15) (AV.sh v16) (AV.sh v17) (AV.sh v18) (AV.sh v19) (AV.sh v20) (AV.sh v21) (AV.sh v22) (AV.sh v23) (AV.sh v24) (AV.sh v25) (AV.sh v26) (AV.sh v27) (AV.sh v28) (AV.sh v29) (AV.sh v30) (AV.sh v31) (AV.sh v32) (AV.sh v33) (AV.sh v34) (AV.sh v35) (AV.sh v36) (AV.sh v37) (AV.sh v38) (.str ⟨X.toArray⟩) := rfl
theorem asgQ {x : List UInt8} {h : AH} : ∃ σ1, den T l_path_Parse_0 (sQ v0 v1 v5 v6 v7 v8 v9 v10 v11 v13 v14 v15 v16 v17 v18 v19 v20 v21 v22 v23 v24 v25 v26 v27 v28 v29 v30 v31 v32 v33 v34 v35 v36 v37 v38 (.str ⟨x.toArray⟩)) h = some (.normal, σ1, h) := by
  simp -implicitDefEqProofs (disch := (refine id_ok ?_; first | assumption | omega | (simp only [go_sem, List.size_toArray, List.length_map, List.length_append, List.length_take, List.length_drop, List.length_cons, List.length_nil, mrLL_app, keyD_i, keyD_s, keyD_b, Nat.reduceAdd, Nat.reduceEqDiff, Nat.reduceLeDiff] <;> omega) | with_unfolding_all rfl | decide)) only [go_sem, Nat.reduceAdd, Nat.reduceSub, Nat.reduceMul, Nat.reduceLeDiff, Nat.reduceEqDiff, Nat.reduceBEq, reduceIte, reduceCtorEq, sQ]
  exact ⟨_, rfl⟩
theorem bodyQ_bad {x r : List UInt8} {p : List Int} (hx : x.length ≤ 281474976710656) (hb : atoO x = none) : ∃ σ2, den T (.seq l_path_Parse_0 l_path_Parse_1) (sQ v0 v1 v5 v6 v7 v8 v9 v10 v11 v13 v14 v15 v16 v17 v18 v19 v20 v21 v22 v23 v24 v25 v26 v27 v28 v29 v30 v31 v32 v33 v34 v35 v36 v37 v38 (.str ⟨x.toArray⟩)) (HQ p r) = some (.ret, σ2, HQ p r) := by
  have hn := atoi_run (s := x) (h := HQ p r) hx
  obtain ⟨n, h1⟩ := atoR_none (t := 126) hb
  rw [h1] at hn
  simp only [HQ] at hn
  simp (maxSteps := 2000000) -implicitDefEqProofs (disch := (refine id_ok ?_; first | assumption | omega | (simp only [go_sem, List.size_toArray, List.length_map, List.length_append, List.length_take, List.length_drop, List.length_cons, List.length_nil, mrLL_app, keyD_i, keyD_s, keyD_b, Nat.reduceAdd, Nat.reduceEqDiff, Nat.reduceLeDiff] <;> omega) | with_unfolding_all rfl | decide)) only [go_sem, Nat.reduceAdd, Nat.reduceSub, Nat.reduceMul, Nat.reduceLeDiff, Nat.reduceEqDiff, Nat.reduceBEq, reduceIte, reduceCtorEq, sQ, HQ, hn]
  exact ⟨_, rfl⟩
theorem bodyQ_full {x r : List UInt8} {p : List Int} {v : Int} (hx : x.length ≤ 281474976710656) (hb : atoO x = some v) (h6 : p.length = 6) : ∃ σ2, den T (.seq l_path_Parse_0 l_path_Parse_1) (sQ v0 v1 v5 v6 v7 v8 v9 v10 v11 v13 v14 v15 v16 v17 v18 v19 v20 v21 v22 v23 v24 v25 v26 v27 v28 v29 v30 v31 v32 v33 v34 v35 v36 v37 v38 (.str ⟨x.toArray⟩)) (HQ p r) = some (.ret, σ2, HQ p r) := by
  have hn := atoi_run (s := x) (h := HQ p r) hx
  rw [atoR_some hb] at hn
  have d1 : (((p.map encI).length : Int) == 6) = true := by simp [h6]
  simp only [HQ] at hn
  simp (maxSteps := 2000000) -implicitDefEqProofs (disch := (refine id_ok ?_; first | assumption | omega | (simp only [go_sem, List.size_toArray, List.length_map, List.length_append, List.length_take, List.length_drop, List.length_cons, List.length_nil, mrLL_app, keyD_i, keyD_s, keyD_b, Nat.reduceAdd, Nat.reduceEqDiff, Nat.reduceLeDiff] <;> omega) | with_unfolding_all rfl | decide)) only [go_sem, Nat.reduceAdd, Nat.reduceSub, Nat.reduceMul, Nat.reduceLeDiff, Nat.reduceEqDiff, Nat.reduceBEq, reduceIte, reduceCtorEq, sQ, HQ, hn, d1]
  exact ⟨_, rfl⟩
theorem bodyQ_ok {x r : List UInt8} {p : List Int} {v : Int} (hx : x.length ≤ 281474976710656) (hb : atoO x = some v) (h6 : p.length < 6) :
    ∃ σ2, den T (.seq l_path_Parse_0 l_path_Parse_1) (sQ v0 v1 v5 v6 v7 v8 v9 v10 v11 v13 v14 v15 v16 v17 v18 v19 v20 v21 v22 v23 v24 v25 v26 v27 v28 v29 v30 v31 v32 v33 v34 v35 v36 v37 v38 (.str ⟨x.toArray⟩)) (HQ p r) = some (.normal, σ2, HQ (p ++ [v]) r) := by
  have hn := atoi_run (s := x) (h := HQ p r) hx
  rw [atoR_some hb] at hn
  have d1 : (((p.map encI).length : Int) == 6) = false := by simp; omega
  have e1 : (p ++ [v]).map encI = p.map encI ++ [[.int .i64 v]] := by simp [encI]
  simp only [HQ] at hn
  simp (maxSteps := 2000000) -implicitDefEqProofs (disch := (refine id_ok ?_; first | assumption | omega | (simp only [go_sem, List.size_toArray, List.length_map, List.length_append, List.length_take, List.length_drop, List.length_cons, List.length_nil, mrLL_app, keyD_i, keyD_s, keyD_b, Nat.reduceAdd, Nat.reduceEqDiff, Nat.reduceLeDiff] <;> omega) | with_unfolding_all rfl | decide)) only [go_sem, Nat.reduceAdd, Nat.reduceSub, Nat.reduceMul, Nat.reduceLeDiff, Nat.reduceEqDiff, Nat.reduceBEq, reduceIte, reduceCtorEq, sQ, HQ, hn, d1, e1]
  exact ⟨_, rfl⟩
theorem roundsQ {v12 : AV} : ∀ (xs : List (List UInt8 × List UInt8)) (x r : List UInt8) (p : List Int), (∀ q ∈ (x, r) :: xs, q.1.length ≤ 281474976710656) → p.length ≤ 6 →
    rsV (den T l_path_Parse_0) (den T l_path_Parse_1) 12 3 4 5 46 (sQ v0 v1 v5 v6 v7 v8 v9 v10 v11 v13 v14 v15 v16 v17 v18 v19 v20 v21 v22 v23 v24 v25 v26 v27 v28 v29 v30 v31 v32 v33 v34 v35 v36 v37 v38 v12) ((x, r) :: xs) (HQ p r) = some (if (pthS p (x :: xs.map (·.1))).isSome then .normal else .ret, HQ (endQ p ((x, r) :: xs)).1 (endQ p ((x, r) :: xs)).2) := by
  intro xs
  induction xs with
  | nil =>
    intro x r p hl hp
    have hx := hl (x, r) (by simp)
    have ha : ∃ σ1 h1, den T l_path_Parse_0 ((shL (sQ v0 v1 v5 v6 v7 v8 v9 v10 v11 v13 v14 v15 v16 v17 v18 v19 v20 v21 v22 v23 v24 v25 v26 v27 v28 v29 v30 v31 v32 v33 v34 v35 v36 v37 v38 v12)).set 12 (.str ⟨x.toArray⟩)) (HQ p r) = some (.normal, σ1, h1) := by
      rw [sQ_set]; obtain ⟨σ1, h1⟩ := asgQ; exact ⟨σ1, _, h1⟩
    simp only [List.map_nil, pthS, endQ]
    cases hb : atoO x with
    | none =>
      rw [rsV_ret ha (by rw [sQ_set]; exact bodyQ_bad hx hb)]
      simp
    | some v =>
      by_cases h6 : p.length = 6
      · rw [rsV_ret ha (by rw [sQ_set]; exact bodyQ_full hx hb h6)]
        simp [h6]
      · rw [rsV_norm ha (by rw [sQ_set]; exact bodyQ_ok hx hb (by omega)) rfl rfl rfl]
        simp [h6]
  | cons y xs ih =>
    intro x r p hl hp
    obtain ⟨y, r'⟩ := y
    have hx := hl (x, r) (by simp)
    have ha : ∃ σ1 h1, den T l_path_Parse_0 ((shL (sQ v0 v1 v5 v6 v7 v8 v9 v10 v11 v13 v14 v15 v16 v17 v18 v19 v20 v21 v22 v23 v24 v25 v26 v27 v28 v29 v30 v31 v32 v33 v34 v35 v36 v37 v38 v12)).set 12 (.str ⟨x.toArray⟩)) (HQ p r) = some (.normal, σ1, h1) := by
      rw [sQ_set]; obtain ⟨σ1, h1⟩ := asgQ; exact ⟨σ1, _, h1⟩
    rw [List.map_cons, pthS, endQ]
    cases hb : atoO x with
    | none =>
      rw [rsV_ret ha (by rw [sQ_set]; exact bodyQ_bad hx hb)]
      simp
    | some v =>
      by_cases h6 : p.length = 6
      · rw [rsV_ret ha (by rw [sQ_set]; exact bodyQ_full hx hb h6)]
        simp [h6]
      · have h1 := ih y r' (p ++ [v]) (fun q hq => hl q (List.mem_cons_of_mem _ hq)) (by simp; omega)
        rw [rsV_norm ha (by rw [sQ_set]; exact bodyQ_ok hx hb (by omega)) rfl rfl rfl]
        have e : (HQ (p ++ [v]) r).set 3 (.cells [.str ⟨r'.toArray⟩]) = HQ (p ++ [v]) r' := rfl
        simp only [e, h1]
        simp [h6]
theorem endQ_ok : ∀ (xs : List (List UInt8 × List UInt8)) (p q : List Int), pthS p (xs.map (·.1)) = some q → (endQ p xs).1 = q
  | [], p, q, h => by simpa [pthS, endQ] using h
  | [(x, r)], p, q, h => by
    simp only [List.map_cons, List.map_nil, pthS] at h
    simp only [endQ]
    cases hb : atoO x with
    | none => rw [hb] at h; cases h
    | some v =>
      rw [hb] at h
      simp only at h ⊢
      split at h
      · rename_i hc; rw [if_pos hc]; simpa using h
      · cases h
  | (x, r) :: y :: xs, p, q, h => by
    rw [List.map_cons, pthS] at h
    rw [endQ]
    cases hb : atoO x with
    | none => rw [hb] at h; cases h
    | some v =>
      rw [hb] at h
      simp only at h ⊢
      split at h
      · rename_i hc; rw [if_pos hc]; exact endQ_ok (y :: xs) _ _ h
      · cases h
theorem rangeQ {v12 : AV} {w : List UInt8} (hw : w.length ≤ 281474976710656) :
    rsS T (den T l_path_Parse_0) (den T l_path_Parse_1) 12 (sQ v0 v1 v5 v6 v7 v8 v9 v10 v11 v13 v14 v15 v16 v17 v18 v19 v20 v21 v22 v23 v24 v25 v26 v27 v28 v29 v30 v31 v32 v33 v34 v35 v36 v37 v38 v12) (HQ [] w) (.fn (.func 79) [] [.box 4 0, .box 3 0, .box 5 0]) =
      some (if (pthS [] ((splitP 46 w).map (·.1))).isSome then .normal else .ret, sQ v0 v1 v5 v6 v7 v8 v9 v10 v11 v13 v14 v15 v16 v17 v18 v19 v20 v21 v22 v23 v24 v25 v26 v27 v28 v29 v30 v31 v32 v33 v34 v35 v36 v37 v38 v12, HQ (endQ [] (splitP 46 w)).1 (endQ [] (splitP 46 w)).2) := by
  rw [rsS_fn (c := 46) (s := w) isSpl_ok (spl_mk rfl rfl rfl (by decide) (by decide) (by omega))]
  obtain ⟨x, xs, h⟩ := splitP_hd 46 w
  have hl : ∀ q ∈ splitP 46 w, q.1.length ≤ 281474976710656 := fun q hq => Nat.le_trans (splitP_len hq) hw
  rw [h] at hl ⊢
  rw [roundsQ xs x w [] hl (by simp)]
  rfl
end
/-- A text read. -/
def prsP (s : List UInt8) : List Int × Bool :=
  if s = [] then ([], true) else match pthS [] ((splitP 46 s).map (·.1)) with
    | none => ([], false)
    | some q => if rigP q = true ∧ dotT q = s then (q, true) else ([], false)
set_option maxHeartbeats 4000000 in
theorem prs_run {s : List UInt8} (hs : s.length ≤ 281474976710656) : run T 13 [.str ⟨s.toArray⟩] [] = some (.tup [.sl .sh ((prsP s).1.map encI), .bool (prsP s).2], []) := by
  rw [run_code T_13]
  unfold prsP
  by_cases h0 : s = []
  · have e1 : (s == []) = true := by rw [h0]; rfl
    rw [if_pos h0]
    simp (maxSteps := 2000000) -implicitDefEqProofs (disch := (refine id_ok ?_; first | assumption | omega | (simp only [go_sem, List.size_toArray, List.length_map, List.length_append, List.length_take, List.length_drop, List.length_cons, List.length_nil, mrLL_app, keyD_i, keyD_s, keyD_b, Nat.reduceAdd, Nat.reduceEqDiff, Nat.reduceLeDiff] <;> omega) | with_unfolding_all rfl | decide)) only [go_sem, Nat.reduceAdd, Nat.reduceSub, Nat.reduceMul, Nat.reduceLeDiff, Nat.reduceEqDiff, Nat.reduceBEq, reduceIte, reduceCtorEq, c_path_Parse, e1, List.map_nil]
  · have e1 : (s == []) = false := by simpa using h0
    rw [if_neg h0]
    have h3 := split_run (s := ⟨s.toArray⟩) (d := ⟨#[46]⟩) (h := [.cells [ow []], .cells [.bool false], .cells [ow []]])
    simp only [List.length_cons, List.length_nil, List.cons_append, List.nil_append, Nat.zero_add, Nat.reduceAdd] at h3
    have h4 := @rangeQ
    simp only [sQ] at h4
    have h5 := fun v0 v1 v5 v6 v7 v8 v9 v10 v11 v13 v14 v15 v16 v17 v18 v19 v20 v21 v22 v23 v24 v25 v26 v27 v28 v29 v30 v31 v32 v33 v34 v35 v36 v37 v38 v12 => @h4 v0 v1 v5 v6 v7 v8 v9 v10 v11 v13 v14 v15 v16 v17 v18 v19 v20 v21 v22 v23 v24 v25 v26 v27 v28 v29 v30 v31 v32 v33 v34 v35 v36 v37 v38 v12 s hs
    clear h4
    have hz := endQ_ok (splitP 46 s) []
    generalize endQ [] (splitP 46 s) = ef at *
    obtain ⟨p', r'⟩ := ef
    cases hp : pthS [] ((splitP 46 s).map (·.1)) with
    | none =>
      simp only [hp, HQ, Option.isSome_none, Bool.false_eq_true, if_false, List.map_nil] at h5 ⊢
      simp (maxSteps := 2000000) -implicitDefEqProofs (disch := (refine id_ok ?_; first | assumption | omega | (simp only [go_sem, List.size_toArray, List.length_map, List.length_append, List.length_take, List.length_drop, List.length_cons, List.length_nil, mrLL_app, keyD_i, keyD_s, keyD_b, Nat.reduceAdd, Nat.reduceEqDiff, Nat.reduceLeDiff] <;> omega) | with_unfolding_all rfl | decide)) only [go_sem, Nat.reduceAdd, Nat.reduceSub, Nat.reduceMul, Nat.reduceLeDiff, Nat.reduceEqDiff, Nat.reduceBEq, reduceIte, reduceCtorEq, c_path_Parse, e1, h3, h5]
    | some q =>
      have hz' := hz q hp
      simp only at hz'
      subst hz'
      simp only [hp, HQ, Option.isSome_some, if_true, List.map_nil] at h5 ⊢
      have h6 := fun h => rigP_run (l := p') (h := h)
      cases hr : rigP p' with
      | false =>
        rw [hr] at h6
        rw [if_neg (by simp)]
        simp (maxSteps := 2000000) -implicitDefEqProofs (disch := (refine id_ok ?_; first | assumption | omega | (simp only [go_sem, List.size_toArray, List.length_map, List.length_append, List.length_take, List.length_drop, List.length_cons, List.length_nil, mrLL_app, keyD_i, keyD_s, keyD_b, Nat.reduceAdd, Nat.reduceEqDiff, Nat.reduceLeDiff] <;> omega) | with_unfolding_all rfl | decide)) only [go_sem, Nat.reduceAdd, Nat.reduceSub, Nat.reduceMul, Nat.reduceLeDiff, Nat.reduceEqDiff, Nat.reduceBEq, reduceIte, reduceCtorEq, c_path_Parse, e1, h3, h5, h6, List.map_nil]
      | true =>
        rw [hr] at h6
        have h7 := fun h => ptx_run (l := p') (h := h) (by have := (rigP_all hr).1; omega) (rigP_inI hr)
        by_cases hd : dotT p' = s
        · have e2 : (dotT p' == s) = true := by simp [hd]
          rw [if_pos ⟨rfl, hd⟩]
          simp (maxSteps := 2000000) -implicitDefEqProofs (disch := (refine id_ok ?_; first | assumption | omega | (simp only [go_sem, List.size_toArray, List.length_map, List.length_append, List.length_take, List.length_drop, List.length_cons, List.length_nil, mrLL_app, keyD_i, keyD_s, keyD_b, Nat.reduceAdd, Nat.reduceEqDiff, Nat.reduceLeDiff] <;> omega) | with_unfolding_all rfl | decide)) only [go_sem, Nat.reduceAdd, Nat.reduceSub, Nat.reduceMul, Nat.reduceLeDiff, Nat.reduceEqDiff, Nat.reduceBEq, reduceIte, reduceCtorEq, c_path_Parse, e1, h3, h5, h6, h7, e2, Bool.not_true]
        · have e2 : (dotT p' == s) = false := by simp [hd]
          rw [if_neg (by simp [hd])]
          simp (maxSteps := 2000000) -implicitDefEqProofs (disch := (refine id_ok ?_; first | assumption | omega | (simp only [go_sem, List.size_toArray, List.length_map, List.length_append, List.length_take, List.length_drop, List.length_cons, List.length_nil, mrLL_app, keyD_i, keyD_s, keyD_b, Nat.reduceAdd, Nat.reduceEqDiff, Nat.reduceLeDiff] <;> omega) | with_unfolding_all rfl | decide)) only [go_sem, Nat.reduceAdd, Nat.reduceSub, Nat.reduceMul, Nat.reduceLeDiff, Nat.reduceEqDiff, Nat.reduceBEq, reduceIte, reduceCtorEq, c_path_Parse, e1, h3, h5, h6, h7, e2, Bool.not_false, List.map_nil]
theorem pthS_fit : ∀ (p a : List Int), (∀ k ∈ p, 0 ≤ k ∧ k ≤ 1048576) → a.length + p.length ≤ 6 → pthS a (p.map Lib.itoa) = some (a ++ p)
  | [], a, _, _ => by simp [pthS]
  | k :: p, a, h, hl => by
    obtain ⟨h1, h2⟩ := h k (by simp)
    have hk : atoO (Lib.itoa k) = some k := by unfold atoO; rw [atoi_itoa h1 h2]
    simp only [List.map_cons, pthS, List.length_cons, hk] at hl ⊢
    rw [if_pos (by omega), pthS_fit p _ (fun k hk => h k (List.mem_cons_of_mem _ hk)) (by simp; omega)]
    simp
theorem itoa_ne (k : Int) : Lib.itoa k ≠ [] := by
  unfold Lib.itoa
  split
  · simp
  · exact dec_ne _
theorem dotT_ne {p : List Int} (h : p ≠ []) : dotT p ≠ [] := by
  cases p with
  | nil => exact absurd rfl h
  | cons k r =>
    have := itoa_ne k
    rw [dotT, List.map_cons, Lib.join_cons]
    simp [this]
/-- What is told is read again. -/
theorem prs_dot {p : List Int} (h : rigP p = true) : prsP (dotT p) = (p, true) := by
  unfold prsP
  by_cases h0 : p = []
  · subst h0; rfl
  · rw [if_neg (dotT_ne h0)]
    obtain ⟨h6, hk⟩ := rigP_all h
    have hs : (splitP 46 (dotT p)).map (·.1) = p.map Lib.itoa := by
      unfold dotT
      rw [← joinP_join]
      exact split_dots p h0 fun k hk' => (hk k hk').1
    rw [hs, pthS_fit p [] hk (by simpa using h6)]
    simp [h]
end Go.Proofs.YtjeigcnaalleiaaDoor.L
