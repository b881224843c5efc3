/- DeleteFunc and Compact on names in a box. -/
import Derived.Test.YtlcflpanellbfaaGreatDoorL100
set_option linter.all false
namespace Go.Proofs.YtlcflpanellbfaaGreatDoor.L
open Go.Proofs.YtlcflpanellbfaaGreatDoor.M Go.Proofs.YtlcflpanellbfaaGreatDoor.F Go.Proofs

theorem sort1_run {s : List UInt8} {h : AH} (hs : s.length ≤ 281474976710656) : run T 105 [.str ⟨s.toArray⟩] h = some (.bool (!rigC s), h) := by
  have h1 := rigC_run (h := []) hs
  rw [run_code T_105]
  simp -implicitDefEqProofs (disch := (refine id_ok ?_; first | assumption | omega | (simp only [go_sem, List.size_toArray, List.length_map, List.length_append, List.length_take, List.length_drop, List.length_cons, List.length_nil, mrLL_app, keyD_i, keyD_s, keyD_b, Nat.reduceAdd, Nat.reduceEqDiff, Nat.reduceLeDiff] <;> omega) | with_unfolding_all rfl | decide)) only [go_sem, Nat.reduceAdd, Nat.reduceSub, Nat.reduceMul, Nat.reduceLeDiff, Nat.reduceEqDiff, Nat.reduceBEq, reduceIte, reduceCtorEq, c_cats_Sort_1, h1]
theorem idxF_loop {n : Nat} (hn : n ≤ 1000) : ∀ (R A : List (List UInt8)) (i : Nat), i = A.length → A.length + R.length = n → shS R →
    (R.all rigC = true ∧ den T (.loop l_slices_IndexFunc_string_string_0) (s_slices_IndexFunc_string_string_0 (.bs 0 0 n none) fnD (.int .i64 n) (.int .i64 i)) [Sx (A ++ R)] = some (.exit 0, x_slices_IndexFunc_string_string_0, [Sx (A ++ R)])) ∨
    ∃ K y R', R = K ++ y :: R' ∧ K.all rigC = true ∧ rigC y = false ∧ ∃ σ, den T (.loop l_slices_IndexFunc_string_string_0) (s_slices_IndexFunc_string_string_0 (.bs 0 0 n none) fnD (.int .i64 n) (.int .i64 i)) [Sx (A ++ R)] = some (.ret, σ, [Sx (A ++ R)]) ∧ σ.getD 4 undefA = .int .i64 ((A.length + K.length : Nat)) := by
  intro R
  induction R with
  | nil =>
    intro A i hi hl _
    have e1 : decide ((i : Int) < (n : Int)) = false := decide_eq_false (by simp at hl; omega)
    refine .inl ⟨rfl, ?_⟩
    rw [lp_round]
    simp -implicitDefEqProofs (disch := (refine id_ok ?_; first | assumption | omega | (simp only [go_sem, List.size_toArray, List.length_map, List.length_append, List.length_take, List.length_drop, List.length_cons, List.length_nil, mrLL_app, keyD_i, keyD_s, keyD_b, Nat.reduceAdd, Nat.reduceEqDiff, Nat.reduceLeDiff] <;> omega) | with_unfolding_all rfl | decide)) only [go_sem, Nat.reduceAdd, Nat.reduceSub, Nat.reduceMul, Nat.reduceLeDiff, Nat.reduceEqDiff, Nat.reduceBEq, reduceIte, reduceCtorEq, e1]
  | cons v R ih =>
    intro A i hi hl hs
    have hl' : A.length + 1 + R.length = n := by simp at hl; omega
    have hv := hs v (by simp)
    have e1 : decide ((i : Int) < (n : Int)) = true := decide_eq_true (by omega)
    have e2 : IntKind.i64.wrap ((i : Int) + 1) = ((i + 1 : Nat) : Int) := up1 (by omega)
    have g : ((A ++ v :: R).map sA)[i]? = some (.str ⟨v.toArray⟩) := map_at hi
    have ih' := ih (A ++ [v]) (i + 1) (by simp [hi]) (by simp; omega) (fun s hq => hs s (by simp [hq]))
    rw [List.append_assoc, List.singleton_append] at ih'
    unfold Sx at ih' ⊢
    generalize hM : (A ++ v :: R).map sA = M at *
    have h1 := sort1_run (s := v) (h := [Bx.cells M]) hv
    have i1 : (0 : Int) ≤ (i : Int) := by omega
    have i2 : (i : Int) < (n : Int) := by omega
    cases hr : rigC v with
    | true =>
      rw [hr] at h1
      have hstep : den T (.loop l_slices_IndexFunc_string_string_0) (s_slices_IndexFunc_string_string_0 (.bs 0 0 n none) fnD (.int .i64 n) (.int .i64 i)) [Bx.cells M] = den T (.loop l_slices_IndexFunc_string_string_0) (s_slices_IndexFunc_string_string_0 (.bs 0 0 n none) fnD (.int .i64 n) (.int .i64 (i + 1 : Nat))) [Bx.cells M] := by
        conv => lhs; rw [lp_round]
        simp only [fnD]
        simp (maxSteps := 2000000) -implicitDefEqProofs (disch := (refine id_ok ?_; first | assumption | omega | (simp only [go_sem, List.size_toArray, List.length_map, List.length_append, List.length_take, List.length_drop, List.length_cons, List.length_nil, mrLL_app, keyD_i, keyD_s, keyD_b, Nat.reduceAdd, Nat.reduceEqDiff, Nat.reduceLeDiff] <;> omega) | with_unfolding_all rfl | decide)) only [go_sem, Nat.reduceAdd, Nat.reduceSub, Nat.reduceMul, Nat.reduceLeDiff, Nat.reduceEqDiff, Nat.reduceBEq, reduceIte, reduceCtorEq, e1, ixn, g, h1, e2]
      rw [hstep]
      rcases ih' with ⟨q1, q2⟩ | ⟨K, y, R', rfl, q1, q2, σ, q3, q4⟩
      · exact .inl ⟨by simp [hr, q1], q2⟩
      · refine .inr ⟨v :: K, y, R', by simp, by simp [hr, q1], q2, σ, q3, ?_⟩
        rw [q4]; simp; omega
    | false =>
      rw [hr] at h1
      refine .inr ⟨[], v, R, by simp, rfl, hr, ?_⟩
      rw [lp_round]
      simp only [fnD]
      simp (maxSteps := 2000000) -implicitDefEqProofs (disch := (refine id_ok ?_; first | assumption | omega | (simp only [go_sem, List.size_toArray, List.length_map, List.length_append, List.length_take, List.length_drop, List.length_cons, List.length_nil, mrLL_app, keyD_i, keyD_s, keyD_b, Nat.reduceAdd, Nat.reduceEqDiff, Nat.reduceLeDiff] <;> omega) | with_unfolding_all rfl | decide)) only [go_sem, Nat.reduceAdd, Nat.reduceSub, Nat.reduceMul, Nat.reduceLeDiff, Nat.reduceEqDiff, Nat.reduceBEq, reduceIte, reduceCtorEq, e1, ixn, g, h1, e2]
      exact ⟨_, rfl, by rw [hi]; rfl⟩
theorem idxF_run {L : List (List UInt8)} (hn : L.length ≤ 1000) (hs : shS L) :
    (L.all rigC = true ∧ run T 115 [.bs 0 0 L.length none, fnD] [Sx L] = some (.int .i64 (-1), [Sx L])) ∨
    ∃ K y R', L = K ++ y :: R' ∧ K.all rigC = true ∧ rigC y = false ∧ run T 115 [.bs 0 0 L.length none, fnD] [Sx L] = some (.int .i64 K.length, [Sx L]) := by
  have h0 := idxF_loop (n := L.length) hn L [] 0 rfl (by simp) hs
  simp only [List.nil_append, show ((0 : Nat) : Int) = 0 from rfl, List.length_nil, Nat.zero_add] at h0
  rw [run_code T_115]
  rcases h0 with ⟨q1, q2⟩ | ⟨K, y, R', e, q1, q2, σ, q3, q4⟩
  · refine .inl ⟨q1, ?_⟩
    simp only [fnD] at q2 ⊢
    simp (maxSteps := 2000000) -implicitDefEqProofs (disch := (refine id_ok ?_; first | assumption | omega | (simp only [go_sem, List.size_toArray, List.length_map, List.length_append, List.length_take, List.length_drop, List.length_cons, List.length_nil, mrLL_app, keyD_i, keyD_s, keyD_b, Nat.reduceAdd, Nat.reduceEqDiff, Nat.reduceLeDiff] <;> omega) | with_unfolding_all rfl | decide)) only [go_sem, Nat.reduceAdd, Nat.reduceSub, Nat.reduceMul, Nat.reduceLeDiff, Nat.reduceEqDiff, Nat.reduceBEq, reduceIte, reduceCtorEq, c_slices_IndexFunc_string_string, q2]
  · refine .inr ⟨K, y, R', e, q1, q2, ?_⟩
    simp only [fnD] at q3 ⊢
    simp (maxSteps := 2000000) -implicitDefEqProofs (disch := (refine id_ok ?_; first | assumption | omega | (simp only [go_sem, List.size_toArray, List.length_map, List.length_append, List.length_take, List.length_drop, List.length_cons, List.length_nil, mrLL_app, keyD_i, keyD_s, keyD_b, Nat.reduceAdd, Nat.reduceEqDiff, Nat.reduceLeDiff] <;> omega) | with_unfolding_all rfl | decide)) only [go_sem, Nat.reduceAdd, Nat.reduceSub, Nat.reduceMul, Nat.reduceLeDiff, Nat.reduceEqDiff, Nat.reduceBEq, reduceIte, reduceCtorEq, c_slices_IndexFunc_string_string, q3, q4]
theorem del_loop {n : Nat} (hn : n ≤ 1000) : ∀ (R K J : List (List UInt8)) (i j : Nat), i = K.length → j = K.length + J.length → j + R.length = n → 0 < J.length → shS R →
    ∃ J' : List (List UInt8), (K ++ R.filter rigC).length + J'.length = n ∧ den T (.loop l_slices_DeleteFunc_string_string_0) (s_slices_DeleteFunc_string_string_0 (.bs 0 0 n none) fnD (.int .i64 i) (.int .i64 j)) [Sx (K ++ (J ++ R))]
      = some (.exit 0, x_slices_DeleteFunc_string_string_0 (.bs 0 0 n none) (.int .i64 ((K ++ R.filter rigC).length : Nat)), [Sx (K ++ R.filter rigC ++ J')]) := by
  intro R
  induction R with
  | nil =>
    intro K J i j hi hj hl _ _
    have e1 : decide ((j : Int) < (n : Int)) = false := decide_eq_false (by simp at hl; omega)
    refine ⟨J, by simp at hl ⊢; omega, ?_⟩
    simp only [List.filter_nil, List.append_nil]
    rw [← hi, lp_round]
    simp -implicitDefEqProofs (disch := (refine id_ok ?_; first | assumption | omega | (simp only [go_sem, List.size_toArray, List.length_map, List.length_append, List.length_take, List.length_drop, List.length_cons, List.length_nil, mrLL_app, keyD_i, keyD_s, keyD_b, Nat.reduceAdd, Nat.reduceEqDiff, Nat.reduceLeDiff] <;> omega) | with_unfolding_all rfl | decide)) only [go_sem, Nat.reduceAdd, Nat.reduceSub, Nat.reduceMul, Nat.reduceLeDiff, Nat.reduceEqDiff, Nat.reduceBEq, reduceIte, reduceCtorEq, e1]
  | cons v R ih =>
    intro K J i j hi hj hl hJ hs
    have hl' : j + 1 + R.length = n := by simp at hl; omega
    have hv := hs v (by simp)
    have e1 : decide ((j : Int) < (n : Int)) = true := decide_eq_true (by omega)
    have e2 : IntKind.i64.wrap ((j : Int) + 1) = ((j + 1 : Nat) : Int) := up1 (by omega)
    have e3 : IntKind.i64.wrap ((i : Int) + 1) = ((i + 1 : Nat) : Int) := up1 (by omega)
    obtain ⟨y, J2, rfl⟩ : ∃ y J2, J = y :: J2 := by cases J with
      | nil => simp at hJ
      | cons y J2 => exact ⟨y, J2, rfl⟩
    have g : ((K ++ (y :: J2 ++ v :: R)).map sA)[j]? = some (.str ⟨v.toArray⟩) := by
      rw [← List.append_assoc]; exact map_at (by rw [hj]; simp)
    have i1 : (0 : Int) ≤ (j : Int) := by omega
    have i2 : (j : Int) < (n : Int) := by omega
    have i3 : (0 : Int) ≤ (i : Int) := by omega
    have i4 : (i : Int) < (n : Int) := by simp at hj; omega
    have hset : ((K ++ (y :: J2 ++ v :: R)).map sA).set i (.str ⟨v.toArray⟩) = ((K ++ [v]) ++ ((J2 ++ [v]) ++ R)).map sA := by
      have := map_set' (f := sA) (A := K) (x := y) (y := v) (B := J2 ++ v :: R) hi
      rw [show (K ++ [v]) ++ ((J2 ++ [v]) ++ R) = K ++ v :: (J2 ++ v :: R) by simp]
      exact this
    have hlen : ((K ++ (y :: J2 ++ v :: R)).map sA).length = n := by simp at hl hj ⊢; omega
    have iht := ih (K ++ [v]) (J2 ++ [v]) (i + 1) (j + 1) (by simp [hi]) (by simp at hj ⊢; omega) hl' (by simp) (fun s hq => hs s (by simp [hq]))
    have ihf := ih K (y :: J2 ++ [v]) i (j + 1) hi (by simp at hj ⊢; omega) hl' (by simp) (fun s hq => hs s (by simp [hq]))
    have hf : K ++ (y :: J2 ++ [v] ++ R) = K ++ (y :: J2 ++ v :: R) := by simp
    rw [hf] at ihf
    unfold Sx at iht ihf ⊢
    rw [← hset] at iht
    generalize hM : (K ++ (y :: J2 ++ v :: R)).map sA = M at *
    have h1 := sort1_run (s := v) (h := [Bx.cells M]) hv
    cases hr : rigC v with
    | true =>
      rw [hr] at h1
      have b1 : Nat.ble (i + 1) M.length = true := Nat.ble_eq_true_of_le (by omega)
      have t1 : M.take i ++ AV.str ⟨v.toArray⟩ :: M.drop (i + 1) = M.set i (.str ⟨v.toArray⟩) := tks (by omega)
      obtain ⟨J', q1, q2⟩ := iht
      have hfl : (v :: R).filter rigC = v :: R.filter rigC := by simp [hr]
      have hKv : K ++ [v] ++ R.filter rigC = K ++ v :: R.filter rigC := by simp
      rw [hKv] at q1 q2
      rw [hfl]
      refine ⟨J', q1, ?_⟩
      rw [lp_round]
      simp only [fnD] at q2 ⊢
      simp (maxSteps := 2000000) -implicitDefEqProofs (disch := (refine id_ok ?_; first | assumption | omega | (simp only [go_sem, List.size_toArray, List.length_map, List.length_append, List.length_take, List.length_drop, List.length_cons, List.length_nil, mrLL_app, keyD_i, keyD_s, keyD_b, Nat.reduceAdd, Nat.reduceEqDiff, Nat.reduceLeDiff] <;> omega) | with_unfolding_all rfl | decide)) only [go_sem, Nat.reduceAdd, Nat.reduceSub, Nat.reduceMul, Nat.reduceLeDiff, Nat.reduceEqDiff, Nat.reduceBEq, reduceIte, reduceCtorEq, e1, ixn, g, h1, e2, e3, b1, t1]
      simp only [List.append_assoc, List.cons_append] at q2
      exact q2
    | false =>
      rw [hr] at h1
      obtain ⟨J', q1, q2⟩ := ihf
      have hfl : (v :: R).filter rigC = R.filter rigC := by simp [hr]
      rw [hfl]
      refine ⟨J', q1, ?_⟩
      rw [lp_round]
      simp only [fnD] at q2 ⊢
      simp (maxSteps := 2000000) -implicitDefEqProofs (disch := (refine id_ok ?_; first | assumption | omega | (simp only [go_sem, List.size_toArray, List.length_map, List.length_append, List.length_take, List.length_drop, List.length_cons, List.length_nil, mrLL_app, keyD_i, keyD_s, keyD_b, Nat.reduceAdd, Nat.reduceEqDiff, Nat.reduceLeDiff] <;> omega) | with_unfolding_all rfl | decide)) only [go_sem, Nat.reduceAdd, Nat.reduceSub, Nat.reduceMul, Nat.reduceLeDiff, Nat.reduceEqDiff, Nat.reduceBEq, reduceIte, reduceCtorEq, e1, ixn, g, h1, e2]
      simp only [List.append_assoc, List.cons_append] at q2
      exact q2
/-- What is left behind is cleared. -/
theorem clr_tail {A J : List (List UInt8)} {m d : Nat} {pad : List (List UInt8)} (hm : m = A.length) (hd : d = J.length) :
    ovl ((A ++ (J ++ pad)).map sA) m (List.replicate d [AV.str ⟨#[]⟩]).flatten = (A ++ (List.replicate d [] ++ pad)).map sA := by
  have h1 : (List.replicate d [AV.str ⟨#[]⟩]).flatten = (List.replicate d ([] : List UInt8)).map sA := by
    induction d generalizing J with
    | zero => rfl
    | succ d ih =>
      rw [List.replicate_succ, List.flatten_cons, List.replicate_succ, List.map_cons, ih (J := List.replicate d []) (by simp)]
      rfl
  rw [h1]
  unfold ovl
  subst hm hd
  simp only [List.map_append, List.length_map, List.length_replicate]
  rw [List.take_left' (by simp), ← List.append_assoc (List.map sA A) (List.map sA J), List.drop_left' (by simp)]
  simp
theorem delF_run {L : List (List UInt8)} (h8 : L.length ≤ 8) (hs : shS L) :
    ∃ pad, run T 104 [.bs 0 0 L.length none, fnD] [Sx L] = some (.bs 0 0 (L.filter rigC).length none, [Sx (L.filter rigC ++ pad)]) := by
  have h0 := idxF_run (L := L) (by omega) hs
  rw [run_code T_104]
  rcases h0 with ⟨q1, q2⟩ | ⟨K, y, R, rfl, q1, q2, q3⟩
  · have hf : L.filter rigC = L := List.filter_eq_self.2 (by simpa [List.all_eq_true] using q1)
    rw [hf]
    refine ⟨[], ?_⟩
    have e1 : ((-1 : Int) == -1) = true := rfl
    rw [List.append_nil]
    simp only [fnD] at q2 ⊢
    simp (maxSteps := 2000000) -implicitDefEqProofs (disch := (refine id_ok ?_; first | assumption | omega | (simp only [go_sem, List.size_toArray, List.length_map, List.length_append, List.length_take, List.length_drop, List.length_cons, List.length_nil, mrLL_app, keyD_i, keyD_s, keyD_b, Nat.reduceAdd, Nat.reduceEqDiff, Nat.reduceLeDiff] <;> omega) | with_unfolding_all rfl | decide)) only [go_sem, Nat.reduceAdd, Nat.reduceSub, Nat.reduceMul, Nat.reduceLeDiff, Nat.reduceEqDiff, Nat.reduceBEq, reduceIte, reduceCtorEq, c_slices_DeleteFunc_string_string, q2, e1]
  · obtain ⟨n, hn⟩ : ∃ n, n = (K ++ y :: R).length := ⟨_, rfl⟩
    have hfK : (K ++ y :: R).filter rigC = K ++ R.filter rigC := by
      rw [List.filter_append, List.filter_cons, q2]
      simp only [Bool.false_eq_true, if_false]
      rw [List.filter_eq_self.2 (by simpa [List.all_eq_true] using q1)]
    rw [← hn] at h8 q3
    rw [← hn]
    obtain ⟨J', p1, p2⟩ := del_loop (n := n) (by omega) R K [y] K.length (K.length + 1) rfl rfl (by simp at hn; omega) (by simp) (fun s hq => hs s (by simp [hq]))
    simp only [List.singleton_append] at p2
    rw [hfK]
    generalize hA : K ++ R.filter rigC = A at *
    refine ⟨List.replicate J'.length [], ?_⟩
    have hm : A.length + J'.length = n := p1
    have e1 : ((K.length : Int) == -1) = false := by simp only [beq_eq_false_iff_ne, ne_eq]; omega
    have hKn : K.length + 1 ≤ n := by simp at hn; omega
    have e2 : IntKind.i64.wrap ((K.length : Int) + 1) = ((K.length + 1 : Nat) : Int) := up1 (by omega)
    have c1 := clr_tail (A := A) (J := J') (m := A.length) (d := J'.length) (pad := []) rfl rfl
    simp only [List.append_nil] at c1
    have hML : ((A ++ J').map sA).length = n := by simp; omega
    unfold Sx at p2 q3 ⊢
    generalize hM : (A ++ J').map sA = M at *
    generalize hM0 : (K ++ y :: R).map sA = M0 at *
    have i1 : (0 : Int) ≤ (A.length : Int) := by omega
    have i2 : (A.length : Int) ≤ (n : Int) := by omega
    have en : n - A.length = J'.length := by omega
    have b1 : A.length + J'.length * [AV.str ⟨#[]⟩].length ≤ M.length := by simp only [List.length_cons, List.length_nil]; omega
    generalize hk : A.length = m at *
    simp only [fnD] at p2 q3 ⊢
    have hclr : clrV [AV.str ⟨#[]⟩] [Bx.cells M] (.bs 0 m J'.length none) = some [Bx.cells ((A ++ List.replicate J'.length []).map sA)] := by
      rw [clr_bs, show ([Bx.cells M] : AH)[0]? = some (.cells M) from rfl, clrB_some b1, c1]; rfl
    have hsl1 : sliceV (some 1) (.bs 0 0 n none) (some (some (m : Int))) (some none) (some none) = some (.bs 0 m J'.length none) := by
      rw [slc_bs (by simp) (by simpa using i2) (by simp)]
      simp only [Option.getD_some, Option.getD_none, Int.toNat_natCast, Option.map_none, en, Nat.mul_one, Nat.zero_add]
    have hsl2 : sliceV (some 1) (.bs 0 0 n none) (some none) (some (some (m : Int))) (some none) = some (.bs 0 0 m none) := by
      rw [slc_bs (by simp) (by simp) (by simpa using i2)]
      simp
    simp (maxSteps := 2000000) -implicitDefEqProofs (disch := (refine id_ok ?_; first | assumption | omega | (simp only [go_sem, List.size_toArray, List.length_map, List.length_append, List.length_take, List.length_drop, List.length_cons, List.length_nil, mrLL_app, keyD_i, keyD_s, keyD_b, Nat.reduceAdd, Nat.reduceEqDiff, Nat.reduceLeDiff] <;> omega) | with_unfolding_all rfl | decide)) only [go_sem, Nat.reduceAdd, Nat.reduceSub, Nat.reduceMul, Nat.reduceLeDiff, Nat.reduceEqDiff, Nat.reduceBEq, reduceIte, reduceCtorEq, c_slices_DeleteFunc_string_string, q3, e1, e2, p2, hsl1, hsl2, hclr, gc_one]
/-! ### Compact -/
def cmT : List UInt8 → List (List UInt8) → List (List UInt8)
  | _, [] => []
  | y, w :: r => if y = w then cmT w r else w :: cmT w r
theorem cmpt_cons : ∀ (R : List (List UInt8)) (y : List UInt8), cmpt (y :: R) = y :: cmT y R
  | [], y => rfl
  | w :: r, y => by
    simp only [cmpt, cmT]
    split
    · rename_i h; rw [cmpt_cons r w, h]
    · rw [cmpt_cons r w]
theorem cm2_loop {n k0 : Nat} {pad : List (List UInt8)} (hn : n ≤ 1000) (hk0 : k0 ≤ n) : ∀ (R K J : List (List UInt8)) (y : List UInt8) (k k2 p : Nat), k = K.length → p = K.length + J.length → k0 + k2 = p + 1 → p + 1 + R.length = n → 1 ≤ k2 →
    ∃ J' : List (List UInt8), (K ++ cmT y R).length + J'.length = n ∧ den T (.loop l_slices_Compact_string_string_1) (s_slices_Compact_string_string_1 (.bs 0 0 n none) (.int .i64 k) (.bs 0 k0 (n - k0) none) (.int .i64 k2)) [Sx (K ++ (J ++ y :: (R ++ pad)))]
      = some (.exit 2, x_slices_Compact_string_string_2 (.bs 0 0 n none) (.int .i64 ((K ++ cmT y R).length : Nat)), [Sx (K ++ cmT y R ++ (J' ++ pad))]) := by
  intro R
  induction R with
  | nil =>
    intro K J y k k2 p hk hp h2 hl hk2
    have e1 : decide ((k2 : Int) < ((n - k0 : Nat) : Int)) = false := decide_eq_false (by simp at hl; omega)
    refine ⟨J ++ [y], by simp [cmT] at hl ⊢; omega, ?_⟩
    simp only [cmT, List.append_nil, List.nil_append]
    rw [← hk, lp_round, show K ++ (J ++ [y] ++ pad) = K ++ (J ++ y :: pad) by simp]
    simp -implicitDefEqProofs (disch := (refine id_ok ?_; first | assumption | omega | (simp only [go_sem, List.size_toArray, List.length_map, List.length_append, List.length_take, List.length_drop, List.length_cons, List.length_nil, mrLL_app, keyD_i, keyD_s, keyD_b, Nat.reduceAdd, Nat.reduceEqDiff, Nat.reduceLeDiff] <;> omega) | with_unfolding_all rfl | decide)) only [go_sem, Nat.reduceAdd, Nat.reduceSub, Nat.reduceMul, Nat.reduceLeDiff, Nat.reduceEqDiff, Nat.reduceBEq, reduceIte, reduceCtorEq, e1]
  | cons w R ih =>
    intro K J y k k2 p hk hp h2 hl hk2
    have hl' : p + 1 + 1 + R.length = n := by simp at hl; omega
    have e1 : decide ((k2 : Int) < ((n - k0 : Nat) : Int)) = true := decide_eq_true (by omega)
    have e2 : IntKind.i64.wrap ((k2 : Int) + 1) = ((k2 + 1 : Nat) : Int) := up1 (by omega)
    have e3 : IntKind.i64.wrap ((k : Int) + 1) = ((k + 1 : Nat) : Int) := up1 (by omega)
    obtain ⟨k1, rfl⟩ : ∃ k1, k2 = k1 + 1 := ⟨k2 - 1, by omega⟩
    have e4 : IntKind.i64.wrap (((k1 + 1 : Nat) : Int) - 1) = (k1 : Int) := dn1 (by omega)
    have x1 : k0 + ((k1 + 1 : Nat) : Int).toNat * 1 = p + 1 := by rw [Int.toNat_natCast]; omega
    have x2 : k0 + ((k1 : Nat) : Int).toNat * 1 = p := by rw [Int.toNat_natCast]; omega
    have gy : ((K ++ (J ++ y :: (w :: R ++ pad))).map sA)[p]? = some (.str ⟨y.toArray⟩) := by
      rw [← List.append_assoc]; exact map_at (by rw [hp]; simp)
    have gw : ((K ++ (J ++ y :: (w :: R ++ pad))).map sA)[p + 1]? = some (.str ⟨w.toArray⟩) := by
      rw [show K ++ (J ++ y :: (w :: R ++ pad)) = (K ++ J ++ [y]) ++ w :: (R ++ pad) by simp]; exact map_at (by rw [hp]; simp; omega)
    have i1 : (0 : Int) ≤ ((k1 + 1 : Nat) : Int) := by omega
    have i2 : ((k1 + 1 : Nat) : Int) < ((n - k0 : Nat) : Int) := by omega
    have i3 : (0 : Int) ≤ ((k1 : Nat) : Int) := by omega
    have i4 : ((k1 : Nat) : Int) < ((n - k0 : Nat) : Int) := by omega
    have i5 : (0 : Int) ≤ ((k : Nat) : Int) := by omega
    have i6 : ((k : Nat) : Int) < (n : Int) := by omega
    have hlen : ((K ++ (J ++ y :: (w :: R ++ pad))).map sA).length = n + pad.length := by simp; omega
    by_cases hyw : y = w
    · subst hyw
      have e5 : (y == y) = true := by simp
      obtain ⟨J', q1, q2⟩ := ih K (J ++ [y]) y k (k1 + 1 + 1) (p + 1) hk (by rw [hp]; simp; omega) (by omega) hl' (by omega)
      have hf : K ++ (J ++ [y] ++ y :: (R ++ pad)) = K ++ (J ++ y :: (y :: R ++ pad)) := by simp
      rw [hf] at q2
      have hc : cmT y (y :: R) = cmT y R := by simp [cmT]
      rw [hc]
      refine ⟨J', q1, ?_⟩
      unfold Sx at q2 ⊢
      generalize hM : (K ++ (J ++ y :: (y :: R ++ pad))).map sA = M at *
      generalize hR : (K ++ cmT y R ++ (J' ++ pad)).map sA = MR at *
      generalize hk9 : k1 + 1 = k9 at *
      rw [lp_round]
      simp (maxSteps := 2000000) -implicitDefEqProofs (disch := (refine id_ok ?_; first | assumption | omega | (simp only [go_sem, List.size_toArray, List.length_map, List.length_append, List.length_take, List.length_drop, List.length_cons, List.length_nil, mrLL_app, keyD_i, keyD_s, keyD_b, Nat.reduceAdd, Nat.reduceEqDiff, Nat.reduceLeDiff] <;> omega) | with_unfolding_all rfl | decide)) only [go_sem, Nat.reduceAdd, Nat.reduceSub, Nat.reduceMul, Nat.reduceLeDiff, Nat.reduceEqDiff, Nat.reduceBEq, reduceIte, reduceCtorEq, e1, x1, x2, e4, gy, gw, e5, e2]
      exact q2
    · have e5 : (w == y) = false := by simpa using fun z : w = y => hyw z.symm
      obtain ⟨J2, z, hz⟩ : ∃ J2 z, J ++ [y] = z :: J2 := by cases J with
        | nil => exact ⟨[], y, rfl⟩
        | cons a J => exact ⟨J ++ [y], a, rfl⟩
      have hJ2 : J2.length = J.length := by have := congrArg List.length hz; simp at this; omega
      obtain ⟨J', q1, q2⟩ := ih (K ++ [w]) J2 w (k + 1) (k1 + 1 + 1) (p + 1) (by simp [hk]) (by simp [hp]; omega) (by omega) hl' (by omega)
      have hset : ((K ++ (J ++ y :: (w :: R ++ pad))).map sA).set k (.str ⟨w.toArray⟩) = (K ++ [w] ++ (J2 ++ w :: (R ++ pad))).map sA := by
        rw [show K ++ (J ++ y :: (w :: R ++ pad)) = K ++ z :: (J2 ++ (w :: R ++ pad)) by rw [show z :: (J2 ++ (w :: R ++ pad)) = (z :: J2) ++ (w :: R ++ pad) from rfl, ← hz]; simp]
        rw [show K ++ [w] ++ (J2 ++ w :: (R ++ pad)) = K ++ w :: (J2 ++ (w :: R ++ pad)) by simp]
        exact map_set' hk
      have hc : K ++ cmT y (w :: R) = K ++ [w] ++ cmT w R := by simp [cmT, hyw]
      rw [hc]
      refine ⟨J', q1, ?_⟩
      unfold Sx at q2 ⊢
      rw [← hset] at q2
      generalize hM : (K ++ (J ++ y :: (w :: R ++ pad))).map sA = M at *
      generalize hR : (K ++ [w] ++ cmT w R ++ (J' ++ pad)).map sA = MR at *
      generalize hR2 : (K ++ [w] ++ cmT w R).length = m at *
      have b1 : Nat.ble (k + 1) M.length = true := Nat.ble_eq_true_of_le (by omega)
      have t1 : M.take k ++ AV.str ⟨w.toArray⟩ :: M.drop (k + 1) = M.set k (.str ⟨w.toArray⟩) := tks (by omega)
      generalize hk9 : k1 + 1 = k9 at *
      rw [lp_round]
      simp (maxSteps := 2000000) -implicitDefEqProofs (disch := (refine id_ok ?_; first | assumption | omega | (simp only [go_sem, List.size_toArray, List.length_map, List.length_append, List.length_take, List.length_drop, List.length_cons, List.length_nil, mrLL_app, keyD_i, keyD_s, keyD_b, Nat.reduceAdd, Nat.reduceEqDiff, Nat.reduceLeDiff] <;> omega) | with_unfolding_all rfl | decide)) only [go_sem, Nat.reduceAdd, Nat.reduceSub, Nat.reduceMul, Nat.reduceLeDiff, Nat.reduceEqDiff, Nat.reduceBEq, reduceIte, reduceCtorEq, e1, ixn, x1, x2, e4, gy, gw, e5, e2, e3, b1, t1]
      exact q2
theorem cm1_loop {n : Nat} {pad : List (List UInt8)} (hn : n ≤ 1000) : ∀ (R A : List (List UInt8)) (y : List UInt8) (k : Nat), k = A.length + 1 → k + R.length = n → (∀ R' : List (List UInt8), cmpt (A ++ y :: R') = A ++ cmpt (y :: R')) →
    (cmpt (A ++ y :: R) = A ++ y :: R ∧ den T (.loop l_slices_Compact_string_string_0) (s_slices_Compact_string_string_0 (.bs 0 0 n none) (.int .i64 k)) [Sx (A ++ y :: (R ++ pad))] = some (.exit 0, x_slices_Compact_string_string_0 (.bs 0 0 n none), [Sx (A ++ y :: (R ++ pad))])) ∨
    ∃ pad' σ, den T (.loop l_slices_Compact_string_string_0) (s_slices_Compact_string_string_0 (.bs 0 0 n none) (.int .i64 k)) [Sx (A ++ y :: (R ++ pad))] = some (.ret, σ, [Sx (cmpt (A ++ y :: R) ++ pad')]) ∧ σ.getD 2 undefA = .bs 0 0 (cmpt (A ++ y :: R)).length none := by
  intro R
  induction R with
  | nil =>
    intro A y k hk hl hc
    have e1 : decide ((k : Int) < (n : Int)) = false := decide_eq_false (by simp at hl; omega)
    refine .inl ⟨by rw [hc]; rfl, ?_⟩
    rw [lp_round]
    simp -implicitDefEqProofs (disch := (refine id_ok ?_; first | assumption | omega | (simp only [go_sem, List.size_toArray, List.length_map, List.length_append, List.length_take, List.length_drop, List.length_cons, List.length_nil, mrLL_app, keyD_i, keyD_s, keyD_b, Nat.reduceAdd, Nat.reduceEqDiff, Nat.reduceLeDiff] <;> omega) | with_unfolding_all rfl | decide)) only [go_sem, Nat.reduceAdd, Nat.reduceSub, Nat.reduceMul, Nat.reduceLeDiff, Nat.reduceEqDiff, Nat.reduceBEq, reduceIte, reduceCtorEq, e1]
  | cons z R ih =>
    intro A y k hk hl hc
    have hl' : k + 1 + R.length = n := by simp at hl; omega
    have e1 : decide ((k : Int) < (n : Int)) = true := decide_eq_true (by omega)
    have e2 : IntKind.i64.wrap ((k : Int) + 1) = ((k + 1 : Nat) : Int) := up1 (by omega)
    obtain ⟨k1, rfl⟩ : ∃ k1, k = k1 + 1 := ⟨k - 1, by omega⟩
    have e4 : IntKind.i64.wrap (((k1 + 1 : Nat) : Int) - 1) = (k1 : Int) := dn1 (by omega)
    have gy : ((A ++ y :: (z :: R ++ pad)).map sA)[k1]? = some (.str ⟨y.toArray⟩) := map_at (by omega)
    have gz : ((A ++ y :: (z :: R ++ pad)).map sA)[k1 + 1]? = some (.str ⟨z.toArray⟩) := by
      rw [show A ++ y :: (z :: R ++ pad) = (A ++ [y]) ++ z :: (R ++ pad) by simp]; exact map_at (by simp; omega)
    have i1 : (0 : Int) ≤ ((k1 + 1 : Nat) : Int) := by omega
    have i2 : ((k1 + 1 : Nat) : Int) < (n : Int) := by omega
    have i3 : (0 : Int) ≤ ((k1 : Nat) : Int) := by omega
    have i4 : ((k1 : Nat) : Int) < (n : Int) := by omega
    by_cases hyz : z = y
    · subst hyz
      right
      have e5 : (z == z) = true := by simp
      obtain ⟨J', q1, q2⟩ := cm2_loop (n := n) (k0 := k1 + 1) (pad := pad) hn (by omega) R (A ++ [z]) [] z (k1 + 1) 1 (k1 + 1) (by simp; omega) (by simp; omega) rfl hl' (Nat.le_refl 1)
      have hcc : cmpt (A ++ z :: z :: R) = A ++ [z] ++ cmT z R := by rw [hc]; simp only [cmpt, if_true]; rw [cmpt_cons]; simp
      have hf : A ++ [z] ++ ([] ++ z :: (R ++ pad)) = A ++ z :: (z :: R ++ pad) := by simp
      rw [hf] at q2
      rw [hcc]
      generalize hB : A ++ [z] ++ cmT z R = B at *
      refine ⟨List.replicate J'.length [] ++ pad, ?_⟩
      have c1 := clr_tail (A := B) (J := J') (m := B.length) (d := J'.length) (pad := pad) rfl rfl
      have hML : ((B ++ (J' ++ pad)).map sA).length = n + pad.length := by simp; omega
      unfold Sx at q2 ⊢
      generalize hM : (B ++ (J' ++ pad)).map sA = M at *
      generalize hM0 : (A ++ z :: (z :: R ++ pad)).map sA = M0 at *
      have en : n - B.length = J'.length := by omega
      have b1 : B.length + J'.length * [AV.str ⟨#[]⟩].length ≤ M.length := by
        show B.length + J'.length * 1 ≤ M.length
        omega
      have i6 : (B.length : Int) ≤ (n : Int) := by omega
      generalize hk : B.length = m at *
      have hclr : clrV [AV.str ⟨#[]⟩] [Bx.cells M] (.bs 0 m J'.length none) = some [Bx.cells ((B ++ (List.replicate J'.length [] ++ pad)).map sA)] := by
        rw [clr_bs, show ([Bx.cells M] : AH)[0]? = some (.cells M) from rfl, clrB_some b1, c1]; rfl
      have hsl0 : sliceV (some 1) (.bs 0 0 n none) (some (some ((k1 + 1 : Nat) : Int))) (some none) (some none) = some (.bs 0 (k1 + 1) (n - (k1 + 1)) none) := by
        rw [slc_bs (by simp; omega) (by simp; omega) (by simp)]
        simp only [Option.getD_some, Option.getD_none, Int.toNat_natCast, Option.map_none, Nat.mul_one, Nat.zero_add]
      have hsl1 : sliceV (some 1) (.bs 0 0 n none) (some (some (m : Int))) (some none) (some none) = some (.bs 0 m J'.length none) := by
        rw [slc_bs (by simp) (by simpa using i6) (by simp)]
        simp only [Option.getD_some, Option.getD_none, Int.toNat_natCast, Option.map_none, en, Nat.mul_one, Nat.zero_add]
      have hsl2 : sliceV (some 1) (.bs 0 0 n none) (some none) (some (some (m : Int))) (some none) = some (.bs 0 0 m none) := by
        rw [slc_bs (by simp) (by simp) (by simpa using i6)]
        simp
      generalize hR9 : (B ++ (List.replicate J'.length [] ++ pad)).map sA = MR at *
      simp only [show ((1 : Nat) : Int) = 1 from rfl] at q2
      generalize hk9 : k1 + 1 = k9 at *
      have gz' := gz
      rw [lp_round]
      simp (maxSteps := 4000000) -implicitDefEqProofs (disch := (refine id_ok ?_; first | assumption | omega | (simp only [go_sem, List.size_toArray, List.length_map, List.length_append, List.length_take, List.length_drop, List.length_cons, List.length_nil, mrLL_app, keyD_i, keyD_s, keyD_b, Nat.reduceAdd, Nat.reduceEqDiff, Nat.reduceLeDiff] <;> omega) | with_unfolding_all rfl | decide)) only [go_sem, Nat.reduceAdd, Nat.reduceSub, Nat.reduceMul, Nat.reduceLeDiff, Nat.reduceEqDiff, Nat.reduceBEq, reduceIte, reduceCtorEq, e1, ixn, e4, gy, gz, e5, hsl0, q2, hsl1, hclr, hsl2, List.getD_cons_succ, List.getD_cons_zero]
      exact ⟨_, rfl, rfl⟩
    · have e5 : (z == y) = false := by simpa using hyz
      have ih' := ih (A ++ [y]) z (k1 + 1 + 1) (by simp; omega) hl' (fun R' => by
        have := hc (z :: R')
        simp only [cmpt, if_neg (fun h : y = z => hyz h.symm)] at this
        rw [List.append_assoc, List.singleton_append, this]; simp)
      have hf : A ++ [y] ++ z :: (R ++ pad) = A ++ y :: (z :: R ++ pad) := by simp
      have hf2 : A ++ [y] ++ z :: R = A ++ y :: z :: R := by simp
      rw [hf, hf2] at ih'
      unfold Sx at ih' ⊢
      generalize hM0 : (A ++ y :: (z :: R ++ pad)).map sA = M0 at *
      have hstep : den T (.loop l_slices_Compact_string_string_0) (s_slices_Compact_string_string_0 (.bs 0 0 n none) (.int .i64 (k1 + 1 : Nat))) [Bx.cells M0] = den T (.loop l_slices_Compact_string_string_0) (s_slices_Compact_string_string_0 (.bs 0 0 n none) (.int .i64 (k1 + 1 + 1 : Nat))) [Bx.cells M0] := by
        generalize hk9 : k1 + 1 = k9 at *
        conv => lhs; rw [lp_round]
        simp (maxSteps := 2000000) -implicitDefEqProofs (disch := (refine id_ok ?_; first | assumption | omega | (simp only [go_sem, List.size_toArray, List.length_map, List.length_append, List.length_take, List.length_drop, List.length_cons, List.length_nil, mrLL_app, keyD_i, keyD_s, keyD_b, Nat.reduceAdd, Nat.reduceEqDiff, Nat.reduceLeDiff] <;> omega) | with_unfolding_all rfl | decide)) only [go_sem, Nat.reduceAdd, Nat.reduceSub, Nat.reduceMul, Nat.reduceLeDiff, Nat.reduceEqDiff, Nat.reduceBEq, reduceIte, reduceCtorEq, e1, ixn, e4, gy, gz, e5, e2]
      rw [hstep]
      exact ih'
theorem cpt_run {l pad : List (List UInt8)} {n : Nat} (hn : n = l.length) (h8 : n ≤ 8) :
    ∃ pad', run T 107 [.bs 0 0 n none] [Sx (l ++ pad)] = some (.bs 0 0 (cmpt l).length none, [Sx (cmpt l ++ pad')]) := by
  rw [run_code T_107]
  by_cases h2 : n < 2
  · have e1 : decide ((n : Int) < 2) = true := decide_eq_true (by omega)
    have hc : cmpt l = l := by
      match l, hn with
      | [], _ => rfl
      | [x], _ => rfl
      | x :: y :: r, hn => simp at hn; omega
    refine ⟨pad, ?_⟩
    rw [hc, ← hn]
    simp (maxSteps := 2000000) -implicitDefEqProofs (disch := (refine id_ok ?_; first | assumption | omega | (simp only [go_sem, List.size_toArray, List.length_map, List.length_append, List.length_take, List.length_drop, List.length_cons, List.length_nil, mrLL_app, keyD_i, keyD_s, keyD_b, Nat.reduceAdd, Nat.reduceEqDiff, Nat.reduceLeDiff] <;> omega) | with_unfolding_all rfl | decide)) only [go_sem, Nat.reduceAdd, Nat.reduceSub, Nat.reduceMul, Nat.reduceLeDiff, Nat.reduceEqDiff, Nat.reduceBEq, reduceIte, reduceCtorEq, c_slices_Compact_string_string, e1]
  · have e1 : decide ((n : Int) < 2) = false := decide_eq_false (by omega)
    obtain ⟨y, R, rfl⟩ : ∃ y R, l = y :: R := by cases l with
      | nil => simp at hn; omega
      | cons y R => exact ⟨y, R, rfl⟩
    have h0 := cm1_loop (n := n) (pad := pad) (by omega) R [] y 1 rfl (by simp at hn; omega) (fun R' => rfl)
    simp only [List.nil_append, show ((1 : Nat) : Int) = 1 from rfl] at h0
    rcases h0 with ⟨q1, q2⟩ | ⟨pad', σ, q3, q4⟩
    · refine ⟨pad, ?_⟩
      rw [q1, ← hn]
      simp (maxSteps := 2000000) -implicitDefEqProofs (disch := (refine id_ok ?_; first | assumption | omega | (simp only [go_sem, List.size_toArray, List.length_map, List.length_append, List.length_take, List.length_drop, List.length_cons, List.length_nil, mrLL_app, keyD_i, keyD_s, keyD_b, Nat.reduceAdd, Nat.reduceEqDiff, Nat.reduceLeDiff] <;> omega) | with_unfolding_all rfl | decide)) only [go_sem, Nat.reduceAdd, Nat.reduceSub, Nat.reduceMul, Nat.reduceLeDiff, Nat.reduceEqDiff, Nat.reduceBEq, reduceIte, reduceCtorEq, c_slices_Compact_string_string, e1, q2]
    · refine ⟨pad', ?_⟩
      simp (maxSteps := 2000000) -implicitDefEqProofs (disch := (refine id_ok ?_; first | assumption | omega | (simp only [go_sem, List.size_toArray, List.length_map, List.length_append, List.length_take, List.length_drop, List.length_cons, List.length_nil, mrLL_app, keyD_i, keyD_s, keyD_b, Nat.reduceAdd, Nat.reduceEqDiff, Nat.reduceLeDiff] <;> omega) | with_unfolding_all rfl | decide)) only [go_sem, Nat.reduceAdd, Nat.reduceSub, Nat.reduceMul, Nat.reduceLeDiff, Nat.reduceEqDiff, Nat.reduceBEq, reduceIte, reduceCtorEq, c_slices_Compact_string_string, e1, q3, q4, gc_one]
end Go.Proofs.YtlcflpanellbfaaGreatDoor.L
