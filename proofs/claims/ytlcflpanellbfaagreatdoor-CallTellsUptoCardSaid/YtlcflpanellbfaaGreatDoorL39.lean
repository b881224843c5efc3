/- Categories' lengths; labels: what is read is what was written; and canonical reading. -/
import Derived.Test.YtlcflpanellbfaaGreatDoorL25
import Derived.Test.YtlcflpanellbfaaGreatDoorL22
set_option linter.all false
set_option maxRecDepth 100000
namespace Go.Proofs.YtlcflpanellbfaaGreatDoor.L
open Go.Proofs.YtlcflpanellbfaaGreatDoor.M Go.Proofs.YtlcflpanellbfaaGreatDoor.F Go.Proofs
section
theorem dec_len : ∀ (k u : Nat), u < 10 ^ (k + 1) → (Lib.decDigits u).length ≤ k + 1
  | 0, u, h => by rw [Lib.decDigits, dif_pos (by simpa using h)]; simp
  | k + 1, u, h => by
    rw [Lib.decDigits]
    split
    · simp
    · have h2 : u / 10 < 10 ^ (k + 1) := by
        refine Nat.div_lt_of_lt_mul ?_
        rw [Nat.pow_succ] at h; omega
      have := dec_len k (u / 10) h2
      simp; omega
theorem numC_len {s : List UInt8} {m : Int} (hm : m ≤ 1048576) (h : (numC s m).2 = true) : s.length ≤ 7 ∧ 0 ≤ (numC s m).1 ∧ (numC s m).1 ≤ m := by
  unfold numC at h ⊢
  split at h
  · rename_i v hv
    simp only [decide_eq_true_eq] at h
    obtain ⟨h0, h1, h2⟩ := h
    simp only
    refine ⟨?_, h0, h1⟩
    rw [← h2]
    unfold Lib.itoa
    rw [if_neg (by omega)]
    exact dec_len 6 v.toNat (by omega)
  · cases h
  · cases h
theorem pathC_all : ∀ (l : List (List UInt8)) (p q : List Int), pathC p l = some q → q.length = p.length + l.length ∧ ∀ w ∈ l, w.length ≤ 7
  | [], p, q, h => by simp only [pathC, Option.some.injEq] at h; subst h; simp
  | w :: l, p, q, h => by
    simp only [pathC] at h
    split at h
    · rename_i hc
      obtain ⟨h1, h2⟩ := pathC_all l _ q h
      refine ⟨by simp at h1 ⊢; omega, fun x hx => ?_⟩
      rcases List.mem_cons.1 hx with rfl | hx
      · exact (numC_len (by omega) hc.1).1
      · exact h2 x hx
    · cases h
theorem splitP_sum (c : UInt8) : ∀ s : List UInt8, ((splitP c s).map fun q => q.1.length + 1).sum = s.length + 1
  | [] => by simp [splitP]
  | b :: s => by
    have ih := splitP_sum c s
    obtain ⟨x, xs, hx⟩ := splitP_hd c s
    simp only [splitP]
    split
    · simp; omega
    · rw [hx] at ih ⊢
      simp at ih ⊢; omega
theorem sum_le : ∀ (l : List (List UInt8 × List UInt8)), (∀ q ∈ l, q.1.length ≤ 7) → (l.map fun q => q.1.length + 1).sum ≤ 8 * l.length
  | [], _ => by simp
  | a :: l, h => by
    have := sum_le l fun q hq => h q (List.mem_cons_of_mem _ hq)
    have h0 := h a (by simp)
    simp; omega
theorem cutC_sum {c : UInt8} {s : List UInt8} (h : (cutC c s).2.2 = true) : s.length = (cutC c s).1.length + 1 + (cutC c s).2.1.length := by
  have := idxB_lt s c
  unfold cutC at h ⊢
  split
  · simp; omega
  · rename_i hn; rw [if_neg hn] at h; cases h
theorem rigC_len {s : List UInt8} (h : rigC s = true) : s.length ≤ 60 := by
  unfold rigC parC at h
  split at h
  · rename_i hc
    have h1 := cutC_sum hc.1
    have h2 := (numC_len (by omega) hc.2).1
    split at h
    · rename_i hw; rw [hw] at h1; simp at h1; omega
    · split at h
      · rename_i q hq
        obtain ⟨k1, k2⟩ := pathC_all _ _ _ hq
        have k3 := pathC_len _ _ _ hq (by simp)
        have k4 := splitP_sum 46 (cutC 47 s).1
        have k5 := sum_le (splitP 46 (cutC 47 s).1) fun q hq => k2 _ (List.mem_map.2 ⟨q, hq, rfl⟩)
        simp at k1
        omega
      · cases h
  · cases h
theorem rigE_all : ∀ (l : List Ent) (p : Option (List UInt8)), rigE p l = true → ∀ e ∈ l, e.1.length ≤ 60 ∧ 0 ≤ e.2 ∧ e.2 < 4 ∧ e.2 ≠ 1
  | [], p, h, e, he => by cases he
  | a :: l, p, h, e, he => by
    simp only [rigE, Bool.and_eq_true, decide_eq_true_eq, Bool.not_eq_true', beq_eq_false_iff_ne] at h
    obtain ⟨⟨⟨⟨⟨h1, h2⟩, h3⟩, h4⟩, h5⟩, h6⟩ := h
    rcases List.mem_cons.1 he with rfl | he
    · exact ⟨rigC_len h1, h3, h4, h2⟩
    · exact rigE_all l _ h6 e he
theorem flatMap_len {α : Type} {f : α → List UInt8} {k : Nat} : ∀ (l : List α), (∀ a ∈ l, (f a).length ≤ k) → (l.flatMap f).length ≤ l.length * k
  | [], _ => by simp
  | a :: l, h => by
    have h1 := h a (by simp)
    have h2 := flatMap_len l fun b hb => h b (List.mem_cons_of_mem _ hb)
    simp only [List.flatMap_cons, List.length_append, List.length_cons, Nat.succ_mul]
    omega
theorem enE1_len {e : Ent} (h : e.1.length ≤ 60 ∧ 0 ≤ e.2 ∧ e.2 < 4 ∧ e.2 ≠ 1) : (enE1 e).length ≤ 80 := by
  have n1 := num_len (n := e.1.length) (by omega)
  have n2 := num_len (n := e.2.toNat) (by omega)
  simp only [enE1, List.length_append]; omega
end
section
theorem app_get {h l : AH} {k : Nat} : (h ++ l)[h.length + k]? = l[k]? := by rw [List.getElem?_append_right (by omega)]; congr 1; omega
theorem app_get0 {h l : AH} : (h ++ l)[h.length]? = l[0]? := by rw [List.getElem?_append_right (by omega)]; congr 1; omega
theorem app_set {h l : AH} {k : Nat} {x : Bx} : (h ++ l).set (h.length + k) x = h ++ l.set k x := by rw [List.set_append_right _ _ (by omega)]; congr 2; omega
theorem app_set0 {h l : AH} {x : Bx} : (h ++ l).set h.length x = h ++ l.set 0 x := by rw [List.set_append_right _ _ (by omega)]; congr 2; omega
theorem getL_len (s : TS) : (getL s).2.2.1.length ≤ s.1.length ∧ ∀ e ∈ (getL s).1, e.1.length ≤ s.1.length := by
  have l1 := tapN_len 8 s
  have l2 := getEs_len (tapN 8 s).1 (tapN 8 s).2
  have l3 := getEs_str (tapN 8 s).1 (tapN 8 s).2
  unfold getL
  dsimp only
  split
  · exact ⟨by dsimp only; omega, fun e he => by have := l3 e he; omega⟩
  · exact ⟨by dsimp only; omega, fun e he => by cases he⟩
theorem tapT_str (g : Nat) (s : TS) : (tapT g s).1.length ≤ s.1.length := by
  have hn := tapN_len g s
  unfold tapT
  split
  · simp
  · split
    · simp
    · split
      · simp
      · simp; omega
end
section
theorem rdN_num : ∀ (n i acc : Nat) (rest : List UInt8), i + (numP n).length ≤ 8 → ¬ (0 < i ∧ n = 0) → rdN acc i (num n ++ rest) = (acc + n * 128 ^ i, i + (num n).length, 0) := by
  intro n
  induction n using Nat.strongRecOn with
  | _ n ih =>
    intro i acc rest hi hn
    by_cases h : n < 128
    · have hnum : num n = [UInt8.ofNat n] := by rw [num]; simp [h]
      have ht : (UInt8.ofNat n).toNat = n := by simp; omega
      rw [hnum]
      simp only [List.cons_append, List.nil_append, rdN, ht, List.length_cons, List.length_nil]
      rw [if_neg (by omega), if_neg (by omega), if_neg (by omega)]
    · have hnum : num n = UInt8.ofNat (n % 128 + 128) :: num (n / 128) := by rw [num]; simp [h]
      have hp : numP n = UInt8.ofNat (n % 128 + 128) :: numP (n / 128) := by rw [numP]; simp [h]
      have ht : (UInt8.ofNat (n % 128 + 128)).toNat = n % 128 + 128 := by simp; omega
      rw [hp, List.length_cons] at hi
      rw [hnum]
      simp only [List.cons_append, rdN, ht, List.length_cons]
      rw [if_neg (by omega), if_pos (by omega), Nat.add_sub_cancel, ih (n / 128) (by omega) (i + 1) _ rest (by omega) (by omega)]
      have : acc + n % 128 * 128 ^ i + n / 128 * 128 ^ (i + 1) = acc + n * 128 ^ i := by
        rw [Nat.pow_succ, Nat.mul_comm (128 ^ i) 128, ← Nat.mul_assoc, Nat.add_assoc, ← Nat.add_mul]
        congr 2
        omega
      rw [this]
      congr 2
      omega
theorem rdN_0 {n : Nat} {rest : List UInt8} (h : n ≤ 4611686018427387903) : rdN 0 0 (num n ++ rest) = (n, (num n).length, 0) := by
  have := numP_len 8 n (by omega)
  rw [rdN_num n 0 0 rest (by omega) (by omega)]
  simp
theorem tapN_num {n g : Nat} {rest : List UInt8} (h : n ≤ g) (hg : g ≤ 4611686018427387903) : tapN g (num n ++ rest, none) = (n, rest, none) := by
  unfold tapN
  simp only [Option.isSome_none, Bool.false_eq_true, if_false, rdN_0 (show n ≤ 4611686018427387903 by omega), ne_eq, not_true_eq_false]
  rw [if_neg (by omega)]
  simp
theorem tapT_txt {s rest : List UInt8} {g : Nat} (h : s.length ≤ g) (hg : g ≤ 4611686018427387903) : tapT g (num s.length ++ (s ++ rest), none) = (s, rest, none) := by
  unfold tapT
  simp only [Option.isSome_none, Bool.false_eq_true, if_false, tapN_num h hg]
  rw [if_neg (by simp)]
  simp
theorem getEs_put : ∀ (l : List Ent) (rest : List UInt8), (∀ e ∈ l, e.1.length ≤ 60 ∧ 0 ≤ e.2 ∧ e.2 < 4 ∧ e.2 ≠ 1) → getEs l.length (l.flatMap enE1 ++ rest, none) = (l, rest, none)
  | [], rest, h => by simp [getEs]
  | e :: l, rest, h => by
    obtain ⟨h1, h2, h3, _⟩ := h e (by simp)
    have ih := getEs_put l rest fun x hx => h x (List.mem_cons_of_mem _ hx)
    obtain ⟨c, v⟩ := e
    simp only at h1 h2 h3
    obtain ⟨v, rfl⟩ : ∃ k : Nat, v = k := ⟨v.toNat, by omega⟩
    have e1 : ((c, (v : Int)) :: l).flatMap enE1 ++ rest = num c.length ++ (c ++ (num v ++ (l.flatMap enE1 ++ rest))) := by simp [enE1, List.append_assoc]
    rw [e1, List.length_cons, getEs, tapT_txt (by omega) (by omega)]
    simp only
    rw [tapN_num (by omega) (by omega)]
    simp only [ih]
theorem getL_put {l : List Ent} {rest : List UInt8} (h : rigL l = true) : getL (num l.length ++ (l.flatMap enE1 ++ rest), none) = (l, 0, rest, none) := by
  have h' := h
  simp only [rigL, Bool.and_eq_true, decide_eq_true_eq] at h'
  unfold getL
  rw [tapN_num h'.1 (by omega)]
  simp only [getEs_put l rest (rigE_all _ _ h'.2), Option.isSome_none, h, and_self, if_true]
attribute [local irreducible] tapN tapT
end
end Go.Proofs.YtlcflpanellbfaaGreatDoor.L
/- Paths: which are right, parents, children, order; comparisons. -/
set_option linter.all false
set_option maxRecDepth 100000
namespace Go.Proofs.YtlcflpanellbfaaGreatDoor.L
open Go.Proofs.YtlcflpanellbfaaGreatDoor.M Go.Proofs.YtlcflpanellbfaaGreatDoor.F Go.Proofs
theorem incP {n : Nat} (h : n ≤ 9223372036854775806) : IntKind.i64.wrap ((n : Int) + 1) = ((n + 1 : Nat) : Int) := by rw [w64 (by omega) (by omega)]; rfl
def okN (n : Int) : Bool := decide (n ≥ 0) && decide (n ≤ 1048576)
theorem okN_iff {n : Int} : okN n = true ↔ 0 ≤ n ∧ n ≤ 1048576 := by simp [okN]
theorem num_run {n : Int} {h : AH} : run T 95 [.int .i64 n] h = some (.bool (okN n), h) := by
  rw [run_code T_95]
  unfold okN
  cases e1 : decide (n ≥ 0)
  · simp -implicitDefEqProofs (disch := (refine id_ok ?_; first | assumption | omega | (simp [go_sem] <;> omega) | with_unfolding_all rfl | decide)) only [go_sem, Nat.reduceAdd, Nat.reduceSub, Nat.reduceMul, Nat.reduceLeDiff, Nat.reduceEqDiff, Nat.reduceBEq, reduceIte, reduceCtorEq, c_path_number, e1, Bool.false_and]
  · simp -implicitDefEqProofs (disch := (refine id_ok ?_; first | assumption | omega | (simp [go_sem] <;> omega) | with_unfolding_all rfl | decide)) only [go_sem, Nat.reduceAdd, Nat.reduceSub, Nat.reduceMul, Nat.reduceLeDiff, Nat.reduceEqDiff, Nat.reduceBEq, reduceIte, reduceCtorEq, c_path_number, e1, Bool.true_and]
theorem bad_run {n : Int} {h : AH} : run T 94 [.int .i64 n] h = some (.bool (!okN n), h) := by
  have h1 := num_run (n := n) (h := [])
  rw [run_code T_94]
  simp -implicitDefEqProofs (disch := (refine id_ok ?_; first | assumption | omega | (simp [go_sem] <;> omega) | with_unfolding_all rfl | decide)) only [go_sem, Nat.reduceAdd, Nat.reduceSub, Nat.reduceMul, Nat.reduceLeDiff, Nat.reduceEqDiff, Nat.reduceBEq, reduceIte, reduceCtorEq, c_path_Right_1, h1]
def fnB : AV := .fn (.func 94) [] []
theorem idx_loop {l : List Int} {h : AH} (hl : l.length ≤ 1000000000) : ∀ (d i : Nat), d + i = l.length →
    ((l.drop i).all okN = true ∧ den T (.loop l_slices_IndexFunc_int_int_0) (s_slices_IndexFunc_int_int_0 (.sl .sh (l.map encI)) fnB (.int .i64 l.length) (.int .i64 i)) h = some (.exit 0, x_slices_IndexFunc_int_int_0, h)) ∨
    ((l.drop i).all okN = false ∧ ∃ σ j, den T (.loop l_slices_IndexFunc_int_int_0) (s_slices_IndexFunc_int_int_0 (.sl .sh (l.map encI)) fnB (.int .i64 l.length) (.int .i64 i)) h = some (.ret, σ, h) ∧ σ.getD 4 undefA = .int .i64 ((j : Nat) : Int)) := by
  intro d
  induction d with
  | zero =>
    intro i hd
    have hd' : decide ((i : Int) < l.length) = false := decide_eq_false (by omega)
    refine .inl ⟨by rw [List.drop_eq_nil_of_le (by omega)]; rfl, ?_⟩
    rw [lp_round]
    simp -implicitDefEqProofs (disch := (refine id_ok ?_; first | assumption | omega | (simp [go_sem] <;> omega) | with_unfolding_all rfl | decide)) only [go_sem, Nat.reduceAdd, Nat.reduceSub, Nat.reduceMul, Nat.reduceLeDiff, Nat.reduceEqDiff, Nat.reduceBEq, reduceIte, reduceCtorEq, hd', fnB]
  | succ d ih =>
    intro i hd
    have hib : i < l.length := by omega
    have hd' : decide ((i : Int) < l.length) = true := decide_eq_true (by omega)
    have hge : (l.map encI)[(i : Int).toNat]? = some (encI l[i]) := by simp [hib]
    have hdr : l.drop i = l[i] :: l.drop (i + 1) := List.drop_eq_getElem_cons hib
    have e7 := incP (n := i) (by omega)
    have ih' := ih (i + 1) (by omega)
    rw [hdr, List.all_cons]
    generalize l[i] = x at *
    have hb := bad_run (n := x) (h := h)
    simp only [encI] at hge
    cases hx : okN x
    · rw [hx] at hb
      refine .inr ⟨rfl, ?_⟩
      rw [lp_round]
      simp (maxSteps := 2000000) -implicitDefEqProofs (disch := (refine id_ok ?_; first | assumption | omega | (simp [go_sem] <;> omega) | with_unfolding_all rfl | decide)) only [go_sem, Nat.reduceAdd, Nat.reduceSub, Nat.reduceMul, Nat.reduceLeDiff, Nat.reduceEqDiff, Nat.reduceBEq, reduceIte, reduceCtorEq, hd', hge, fnB, hb]
      exact ⟨_, i, rfl, rfl⟩
    · rw [hx] at hb
      have hstep : den T (.loop l_slices_IndexFunc_int_int_0) (s_slices_IndexFunc_int_int_0 (.sl .sh (l.map encI)) fnB (.int .i64 l.length) (.int .i64 i)) h = den T (.loop l_slices_IndexFunc_int_int_0) (s_slices_IndexFunc_int_int_0 (.sl .sh (l.map encI)) fnB (.int .i64 l.length) (.int .i64 (i + 1 : Nat))) h := by
        rw [lp_round]
        simp (maxSteps := 2000000) -implicitDefEqProofs (disch := (refine id_ok ?_; first | assumption | omega | (simp [go_sem] <;> omega) | with_unfolding_all rfl | decide)) only [go_sem, Nat.reduceAdd, Nat.reduceSub, Nat.reduceMul, Nat.reduceLeDiff, Nat.reduceEqDiff, Nat.reduceBEq, reduceIte, reduceCtorEq, hd', hge, fnB, hb, e7]
        try rfl
      rw [hstep, Bool.true_and]
      exact ih'
theorem con_run {l : List Int} {h : AH} (hl : l.length ≤ 1000000000) : run T 93 [.sl .sh (l.map encI), .fn (.func 94) [] []] h = some (.bool (!(l.all okN)), h) := by
  have hi : ∃ n : Int, run T 102 [.sl .sh (l.map encI), .fn (.func 94) [] []] h = some (.int .i64 n, h) ∧ decide (n ≥ 0) = !(l.all okN) := by
    rw [run_code T_102]
    rcases idx_loop (h := h) hl l.length 0 (by omega) with ⟨h1, h2⟩ | ⟨h1, σ, j, h2, h3⟩
    · simp only [show ((0 : Nat) : Int) = 0 from rfl, List.drop_zero, fnB] at h1 h2
      refine ⟨-1, ?_, by rw [h1]; rfl⟩
      simp (maxSteps := 2000000) -implicitDefEqProofs (disch := (refine id_ok ?_; first | assumption | omega | (simp [go_sem] <;> omega) | with_unfolding_all rfl | decide)) only [go_sem, Nat.reduceAdd, Nat.reduceSub, Nat.reduceMul, Nat.reduceLeDiff, Nat.reduceEqDiff, Nat.reduceBEq, reduceIte, reduceCtorEq, c_slices_IndexFunc_int_int, List.length_map, h2]
    · simp only [show ((0 : Nat) : Int) = 0 from rfl, List.drop_zero, fnB] at h1 h2
      refine ⟨j, ?_, by rw [h1]; exact decide_eq_true (by omega)⟩
      simp (maxSteps := 2000000) -implicitDefEqProofs (disch := (refine id_ok ?_; first | assumption | omega | (simp [go_sem] <;> omega) | with_unfolding_all rfl | decide)) only [go_sem, Nat.reduceAdd, Nat.reduceSub, Nat.reduceMul, Nat.reduceLeDiff, Nat.reduceEqDiff, Nat.reduceBEq, reduceIte, reduceCtorEq, c_slices_IndexFunc_int_int, List.length_map, h2, h3]
  obtain ⟨n, h1, h2⟩ := hi
  rw [run_code T_93]
  simp (maxSteps := 2000000) -implicitDefEqProofs (disch := (refine id_ok ?_; first | assumption | omega | (simp [go_sem] <;> omega) | with_unfolding_all rfl | decide)) only [go_sem, Nat.reduceAdd, Nat.reduceSub, Nat.reduceMul, Nat.reduceLeDiff, Nat.reduceEqDiff, Nat.reduceBEq, reduceIte, reduceCtorEq, c_slices_ContainsFunc_int_int, h1, h2]
def rigP (l : List Int) : Bool := decide (l.length ≤ 6) && l.all okN
theorem rigP_run {l : List Int} {h : AH} : run T 66 [.sl .sh (l.map encI)] h = some (.bool (rigP l), h) := by
  have e1 : decide ((l.length : Int) ≤ 6) = decide (l.length ≤ 6) := by congr 1; exact propext (by omega)
  rw [run_code T_66]
  unfold rigP
  by_cases h6 : l.length ≤ 6
  · have hc := fun h => con_run (l := l) (h := h) (by omega)
    rw [decide_eq_true h6] at e1
    simp (maxSteps := 2000000) -implicitDefEqProofs (disch := (refine id_ok ?_; first | assumption | omega | (simp [go_sem] <;> omega) | with_unfolding_all rfl | decide)) only [go_sem, Nat.reduceAdd, Nat.reduceSub, Nat.reduceMul, Nat.reduceLeDiff, Nat.reduceEqDiff, Nat.reduceBEq, reduceIte, reduceCtorEq, c_path_Right, List.length_map, e1, hc, Bool.not_not, h6, decide_true, Bool.true_and]
  · rw [decide_eq_false h6] at e1
    simp (maxSteps := 2000000) -implicitDefEqProofs (disch := (refine id_ok ?_; first | assumption | omega | (simp [go_sem] <;> omega) | with_unfolding_all rfl | decide)) only [go_sem, Nat.reduceAdd, Nat.reduceSub, Nat.reduceMul, Nat.reduceLeDiff, Nat.reduceEqDiff, Nat.reduceBEq, reduceIte, reduceCtorEq, c_path_Right, List.length_map, e1, decide_eq_false h6, Bool.false_and]
theorem rigP_all {l : List Int} (h : rigP l = true) : l.length ≤ 6 ∧ ∀ x ∈ l, 0 ≤ x ∧ x ≤ 1048576 := by
  simp only [rigP, Bool.and_eq_true, decide_eq_true_eq, List.all_eq_true] at h
  exact ⟨h.1, fun x hx => okN_iff.1 (h.2 x hx)⟩
theorem drop_decI {α : Type} [DecidableEq α] {a b : List α} {i : Nat} (ha : i < a.length) (hb : i < b.length) : decide (a.drop i = b.drop i) = (decide (a[i] = b[i]) && decide (a.drop (i + 1) = b.drop (i + 1))) := by
  have h : (a.drop i = b.drop i) ↔ (a[i] = b[i] ∧ a.drop (i + 1) = b.drop (i + 1)) := by
    rw [List.drop_eq_getElem_cons ha, List.drop_eq_getElem_cons hb, List.cons.injEq]
  rw [decide_eq_decide.2 h, Bool.decide_and]
theorem eqI__loop {a b : List Int} {h : AH} (hl : a.length = b.length) (hs : a.length ≤ 1000000000) : ∀ (d i : Nat), d + i = a.length →
    (decide (a.drop i = b.drop i) = true ∧ den T (.loop l_slices_Equal_int_int_0) (s_slices_Equal_int_int_0 (.sl .sh (a.map encI)) (.sl .sh (b.map encI)) (.int .i64 a.length) (.int .i64 i)) h = some (.exit 0, x_slices_Equal_int_int_0, h)) ∨
    (decide (a.drop i = b.drop i) = false ∧ ∃ σ, den T (.loop l_slices_Equal_int_int_0) (s_slices_Equal_int_int_0 (.sl .sh (a.map encI)) (.sl .sh (b.map encI)) (.int .i64 a.length) (.int .i64 i)) h = some (.ret, σ, h) ∧ σ.getD 4 undefA = .bool false) := by
  intro d
  induction d with
  | zero =>
    intro i hd
    have hd' : decide ((i : Int) < a.length) = false := decide_eq_false (by omega)
    refine .inl ⟨by rw [List.drop_eq_nil_of_le (by omega), List.drop_eq_nil_of_le (by omega)]; rfl, ?_⟩
    rw [lp_round]
    simp -implicitDefEqProofs (disch := (refine id_ok ?_; first | assumption | omega | (simp [go_sem] <;> omega) | with_unfolding_all rfl | decide)) only [go_sem, Nat.reduceAdd, Nat.reduceSub, Nat.reduceMul, Nat.reduceLeDiff, Nat.reduceEqDiff, Nat.reduceBEq, reduceIte, reduceCtorEq, hd']
  | succ d ih =>
    intro i hd
    have hia : i < a.length := by omega
    have hib : i < b.length := by omega
    have hd' : decide ((i : Int) < a.length) = true := decide_eq_true (by omega)
    have ga : (a.map encI)[(i : Int).toNat]? = some (encI a[i]) := by simp [hia]
    have gb : (b.map encI)[(i : Int).toNat]? = some (encI b[i]) := by simp [hib]
    have e7 := incP (n := i) (by omega)
    have ih' := ih (i + 1) (by omega)
    have hdr := drop_decI hia hib
    generalize a[i] = x at *
    generalize b[i] = y at *
    rw [hdr]
    simp only [encI] at ga gb
    by_cases hxy : x = y
    · have hx : decide (x = y) = true := decide_eq_true hxy
      have hq : (x != y) = false := by simp [hxy]
      have hstep : den T (.loop l_slices_Equal_int_int_0) (s_slices_Equal_int_int_0 (.sl .sh (a.map encI)) (.sl .sh (b.map encI)) (.int .i64 a.length) (.int .i64 i)) h = den T (.loop l_slices_Equal_int_int_0) (s_slices_Equal_int_int_0 (.sl .sh (a.map encI)) (.sl .sh (b.map encI)) (.int .i64 a.length) (.int .i64 (i + 1 : Nat))) h := by
        rw [lp_round]
        simp (maxSteps := 2000000) -implicitDefEqProofs (disch := (refine id_ok ?_; first | assumption | omega | (simp [go_sem] <;> omega) | with_unfolding_all rfl | decide)) only [go_sem, Nat.reduceAdd, Nat.reduceSub, Nat.reduceMul, Nat.reduceLeDiff, Nat.reduceEqDiff, Nat.reduceBEq, reduceIte, reduceCtorEq, hd', ga, gb, hq, e7]
        try rfl
      rw [hstep, hx, Bool.true_and]
      exact ih'
    · have hx : decide (x = y) = false := decide_eq_false hxy
      have hq : (x != y) = true := by simp [hxy]
      refine .inr ⟨by rw [hx, Bool.false_and], ?_⟩
      rw [lp_round]
      simp (maxSteps := 2000000) -implicitDefEqProofs (disch := (refine id_ok ?_; first | assumption | omega | (simp [go_sem] <;> omega) | with_unfolding_all rfl | decide)) only [go_sem, Nat.reduceAdd, Nat.reduceSub, Nat.reduceMul, Nat.reduceLeDiff, Nat.reduceEqDiff, Nat.reduceBEq, reduceIte, reduceCtorEq, hd', ga, gb, hq]
      exact ⟨_, rfl, rfl⟩
theorem eqI__run {a b : List Int} {h : AH} (ha : a.length ≤ 1000000000) : run T 49 [.sl .sh (a.map encI), .sl .sh (b.map encI)] h = some (.bool (decide (a = b)), h) := by
  rw [run_code T_49]
  by_cases hl : a.length = b.length
  · have hq : ((a.length : Int) != (b.length : Int)) = false := by simp [hl]
    rcases eqI__loop (h := h) hl ha a.length 0 (by omega) with ⟨h1, h2⟩ | ⟨h1, σ, h2, h3⟩
    · simp only [show ((0 : Nat) : Int) = 0 from rfl, List.drop_zero] at h1 h2
      simp (maxSteps := 2000000) -implicitDefEqProofs (disch := (refine id_ok ?_; first | assumption | omega | (simp [go_sem] <;> omega) | with_unfolding_all rfl | decide)) only [go_sem, Nat.reduceAdd, Nat.reduceSub, Nat.reduceMul, Nat.reduceLeDiff, Nat.reduceEqDiff, Nat.reduceBEq, reduceIte, reduceCtorEq, c_slices_Equal_int_int, List.length_map, hq, h2, h1]
    · simp only [show ((0 : Nat) : Int) = 0 from rfl, List.drop_zero] at h1 h2
      simp (maxSteps := 2000000) -implicitDefEqProofs (disch := (refine id_ok ?_; first | assumption | omega | (simp [go_sem] <;> omega) | with_unfolding_all rfl | decide)) only [go_sem, Nat.reduceAdd, Nat.reduceSub, Nat.reduceMul, Nat.reduceLeDiff, Nat.reduceEqDiff, Nat.reduceBEq, reduceIte, reduceCtorEq, c_slices_Equal_int_int, List.length_map, hq, h2, h1, h3]
  · have hq : ((a.length : Int) != (b.length : Int)) = true := by simp; omega
    have hne : decide (a = b) = false := decide_eq_false fun e => hl (by rw [e])
    simp (maxSteps := 2000000) -implicitDefEqProofs (disch := (refine id_ok ?_; first | assumption | omega | (simp [go_sem] <;> omega) | with_unfolding_all rfl | decide)) only [go_sem, Nat.reduceAdd, Nat.reduceSub, Nat.reduceMul, Nat.reduceLeDiff, Nat.reduceEqDiff, Nat.reduceBEq, reduceIte, reduceCtorEq, c_slices_Equal_int_int, List.length_map, hq, hne]
theorem drp0 {α : Type} {l : List α} : l.drop (Int.toNat 0) = l := by simp
theorem cloI_run {l : List Int} {h : AH} (hn : l.length < 1000000000) : run T 46 [.sl .sh (l.map encI)] h = some (ow (l.map encI), h) := by
  rw [run_prim T_46]
  show (if szOK 1 (l.map encI) = true ∧ _ then _ else _) = _
  rw [if_pos ⟨szOK_I, by rw [List.length_map]; omega, by rw [List.length_map]; omega⟩]
def chiP (l : List Int) (n : Int) : AV := if rigP (l ++ [n]) = true then .tup [ow ((l ++ [n]).map encI), .bool true] else .tup [ow [], .bool false]
end Go.Proofs.YtlcflpanellbfaaGreatDoor.L
/- Paths: the laws of their order; put and read. -/
set_option linter.all false
set_option maxRecDepth 100000
namespace Go.Proofs.YtlcflpanellbfaaGreatDoor.L
open Go.Proofs.YtlcflpanellbfaaGreatDoor.M Go.Proofs.YtlcflpanellbfaaGreatDoor.F Go.Proofs
theorem cmpI_neg (a b : Int) : cmpI a b = - cmpI b a := by
  unfold cmpI; (repeat' split) <;> omega
theorem cmpI_0 {a b : Int} : cmpI a b = 0 ↔ a = b := by
  unfold cmpI; (repeat' split) <;> constructor <;> intro h <;> omega
theorem cmpI_rng (a b : Int) : -1 ≤ cmpI a b ∧ cmpI a b ≤ 1 := by
  unfold cmpI; (repeat' split) <;> omega
theorem cmpL_neg : ∀ a b : List Int, cmpL a b = - cmpL b a
  | [], [] => rfl
  | [], _ :: _ => rfl
  | _ :: _, [] => rfl
  | x :: l, y :: m => by
    have h1 := cmpI_neg y x
    have ih := cmpL_neg l m
    simp only [cmpL]
    rw [h1]
    by_cases h : cmpI x y = 0
    · rw [if_neg (by omega), if_neg (by omega)]; exact ih
    · rw [if_pos h, if_pos (by omega)]; omega
theorem cmpL_rng : ∀ a b : List Int, -1 ≤ cmpL a b ∧ cmpL a b ≤ 1
  | [], [] => by simp [cmpL]
  | [], _ :: _ => by simp [cmpL]
  | _ :: _, [] => by simp [cmpL]
  | x :: l, y :: m => by
    have h1 := cmpI_rng x y
    have ih := cmpL_rng l m
    simp only [cmpL]
    split <;> assumption
theorem cmpL_0 : ∀ a b : List Int, cmpL a b = 0 ↔ a = b
  | [], [] => by simp [cmpL]
  | [], _ :: _ => by simp [cmpL]
  | _ :: _, [] => by simp [cmpL]
  | x :: l, y :: m => by
    have h1 := @cmpI_0 x y
    have ih := cmpL_0 l m
    simp only [cmpL, List.cons.injEq]
    by_cases h : cmpI x y = 0
    · rw [if_neg (by simp [h]), ih]; exact ⟨fun q => ⟨h1.1 h, q⟩, fun q => q.2⟩
    · rw [if_pos h]; exact ⟨fun q => absurd q h, fun q => absurd (h1.2 q.1) h⟩
theorem cmpL_app : ∀ (b c : List Int), c ≠ [] → cmpL b (b ++ c) = -1
  | [], [], h => absurd rfl h
  | [], _ :: _, _ => rfl
  | x :: b, c, h => by
    have h1 := (@cmpI_0 x x).2 rfl
    have ih := cmpL_app b c h
    simp only [List.cons_append, cmpL]
    rw [if_neg (by simp [h1])]; exact ih
def getP : Nat → TS → List Int × TS
  | 0, s => ([], s)
  | k + 1, s => (((tapN 1048576 s).1 : Int) :: (getP k (tapN 1048576 s).2).1, (getP k (tapN 1048576 s).2).2)
theorem getP_len : ∀ (k : Nat) (s : TS), (getP k s).2.1.length ≤ s.1.length ∧ (getP k s).1.length = k
  | 0, s => by simp [getP]
  | k + 1, s => by
    have h1 := tapN_len 1048576 s
    have h2 := getP_len k (tapN 1048576 s).2
    simp only [getP, List.length_cons]; omega
theorem getP_put : ∀ (p : List Int) (rest : List UInt8), (∀ n ∈ p, 0 ≤ n ∧ n ≤ 1048576) → getP p.length (p.flatMap (fun n => num n.toNat) ++ rest, none) = (p, rest, none)
  | [], rest, h => by simp [getP]
  | n :: p, rest, h => by
    obtain ⟨h1, h2⟩ := h n (by simp)
    have ih := getP_put p rest fun x hx => h x (List.mem_cons_of_mem _ hx)
    rw [List.length_cons, getP, List.flatMap_cons, List.append_assoc, tapN_num (by omega) (by omega)]
    simp only [ih]
    rw [Int.toNat_of_nonneg h1]
def numA (n : Int) : List UInt8 := if 0 ≤ n ∧ n ≤ 4611686018427387903 then num n.toNat else []
theorem numA_len (n : Int) : (numA n).length ≤ 9 := by
  unfold numA; split
  · exact num_len (by omega)
  · simp
theorem pnA_run {p : Nat} {n : Int} {b : List UInt8} {h : AH} (hp : h[p]? = some (Pn b)) (hb : b.length + 9 ≤ 100000000000) :
    ∃ r, run T 40 [.box p 0, .int .i64 n] h = some (.bool r, h.set p (Pn (b ++ numA n))) := by
  unfold numA
  by_cases hn : 0 ≤ n ∧ n ≤ 4611686018427387903
  · obtain ⟨u, rfl⟩ : ∃ u : Nat, n = u := ⟨n.toNat, by omega⟩
    rw [if_pos hn, Int.toNat_natCast]
    exact ⟨true, pnum_run hp (by omega) hb⟩
  · rw [if_neg hn, List.append_nil, set_same hp]
    refine ⟨false, ?_⟩
    rw [run_code T_40]
    by_cases h0 : n < 0
    · have d1 : decide (n < 0) = true := decide_eq_true h0
      simp -implicitDefEqProofs (disch := (refine id_ok ?_; first | assumption | omega | (simp [go_sem] <;> omega) | with_unfolding_all rfl | decide)) only [go_sem, Nat.reduceAdd, Nat.reduceSub, Nat.reduceMul, Nat.reduceLeDiff, Nat.reduceEqDiff, Nat.reduceBEq, reduceIte, reduceCtorEq, c_tape_Pen_Number, d1]
    · have d1 : decide (n < 0) = false := decide_eq_false h0
      have d2 : decide (n > 4611686018427387903) = true := decide_eq_true (by omega)
      simp -implicitDefEqProofs (disch := (refine id_ok ?_; first | assumption | omega | (simp [go_sem] <;> omega) | with_unfolding_all rfl | decide)) only [go_sem, Nat.reduceAdd, Nat.reduceSub, Nat.reduceMul, Nat.reduceLeDiff, Nat.reduceEqDiff, Nat.reduceBEq, reduceIte, reduceCtorEq, c_tape_Pen_Number, d1, d2]
theorem pput_loop {p : Nat} {l : List Int} {h : AH} (hp : p < h.length) (hl : l.length ≤ 1000000) : ∀ (d i : Nat) (b : List UInt8), d + i = l.length → b.length ≤ 9 * i + 10000 →
    den T (.loop l_path_Put_0) (s_path_Put_0 (.box p 0) (.sl .sh (l.map encI)) (.int .i64 l.length) (.int .i64 i)) (h.set p (Pn b)) = some (.exit 0, x_path_Put_0, h.set p (Pn (b ++ (l.drop i).flatMap numA))) := by
  intro d
  induction d with
  | zero =>
    intro i b hd hb
    have hd' : decide ((i : Int) < l.length) = false := decide_eq_false (by omega)
    rw [List.drop_eq_nil_of_le (by omega), List.flatMap_nil, List.append_nil]
    rw [lp_round]
    simp -implicitDefEqProofs (disch := (refine id_ok ?_; first | assumption | omega | (simp [go_sem] <;> omega) | with_unfolding_all rfl | decide)) only [go_sem, Nat.reduceAdd, Nat.reduceSub, Nat.reduceMul, Nat.reduceLeDiff, Nat.reduceEqDiff, Nat.reduceBEq, reduceIte, reduceCtorEq, hd']
  | succ d ih =>
    intro i b hd hb
    have hib : i < l.length := by omega
    have hd' : decide ((i : Int) < l.length) = true := decide_eq_true (by omega)
    have hge : (l.map encI)[(i : Int).toNat]? = some (encI l[i]) := by simp [hib]
    have hdr : l.drop i = l[i] :: l.drop (i + 1) := List.drop_eq_getElem_cons hib
    have e7 := incP (n := i) (by omega)
    rw [hdr, List.flatMap_cons, ← List.append_assoc]
    have hn9 := numA_len l[i]
    have ih' := ih (i + 1) (b ++ numA l[i]) (by omega) (by rw [List.length_append]; omega)
    generalize l[i] = x at *
    obtain ⟨r, h1⟩ := pnA_run (n := x) (show (h.set p (Pn b))[p]? = some (Pn b) from List.getElem?_set_self hp) (by omega)
    rw [List.set_set] at h1
    simp only [encI] at hge
    rw [lp_round]
    simp (maxSteps := 2000000) -implicitDefEqProofs (disch := (refine id_ok ?_; first | assumption | omega | (simp [go_sem] <;> omega) | with_unfolding_all rfl | decide)) only [go_sem, Nat.reduceAdd, Nat.reduceSub, Nat.reduceMul, Nat.reduceLeDiff, Nat.reduceEqDiff, Nat.reduceBEq, reduceIte, reduceCtorEq, hd', hge, h1, e7]
    rw [List.append_assoc] at ih'
    exact ih'
def bytA (l : List Int) : List UInt8 := num l.length ++ l.flatMap numA
theorem pput_run {p : Nat} {l : List Int} {b : List UInt8} {h : AH} (hp : h[p]? = some (Pn b)) (hl : l.length ≤ 1000000) (hb : b.length ≤ 9000) :
    run T 71 [.box p 0, .sl .sh (l.map encI)] h = some (.tup [], h.set p (Pn (b ++ bytA l))) := by
  have hlt : p < h.length := (List.getElem?_eq_some_iff.1 hp).1
  have h9 := num_len (n := l.length) (by omega)
  have h1 := pnum_run hp (n := l.length) (by omega) (by omega)
  have h2 := pput_loop (h := h) hlt hl l.length 0 (b ++ num l.length) (by omega) (by rw [List.length_append]; omega)
  simp only [show ((0 : Nat) : Int) = 0 from rfl, List.drop_zero] at h2
  rw [run_code T_71]
  unfold bytA
  rw [← List.append_assoc]
  simp (maxSteps := 2000000) -implicitDefEqProofs (disch := (refine id_ok ?_; first | assumption | omega | (simp [go_sem] <;> omega) | with_unfolding_all rfl | decide)) only [go_sem, Nat.reduceAdd, Nat.reduceSub, Nat.reduceMul, Nat.reduceLeDiff, Nat.reduceEqDiff, Nat.reduceBEq, reduceIte, reduceCtorEq, c_path_Put, List.length_map, h1, h2]
theorem bytA_len (l : List Int) (h : l.length ≤ 4611686018427387903) : (bytA l).length ≤ 9 + 9 * l.length := by
  have h9 := num_len h
  have : ∀ l : List Int, (l.flatMap numA).length ≤ 9 * l.length := by
    intro l
    induction l with
    | nil => simp
    | cons a l ih => have := numA_len a; simp only [List.flatMap_cons, List.length_append, List.length_cons]; omega
  have := this l
  unfold bytA
  rw [List.length_append]; omega
theorem pget_loop {t : Nat} {h : AH} (ht : t < h.length) {n : Nat} (hn : n ≤ 1000) : ∀ (d i : Nat) (s : TS) (a : List Int), d + i = n → s.1.length ≤ 9223372036854775806 → a.length ≤ i →
    den T (.loop l_path_Get_0) (s_path_Get_0 (.box t 0) (ow (a.map encI)) (.int .i64 n) (.int .i64 i)) (h.set t (Tb s)) = some (.exit 0, x_path_Get_0 (.box t 0) (ow ((a ++ (getP d s).1).map encI)), h.set t (Tb (getP d s).2)) := by
  intro d
  induction d with
  | zero =>
    intro i s a hd hs ha
    have hd' : decide ((i : Int) < n) = false := decide_eq_false (by omega)
    simp only [getP, List.append_nil]
    rw [lp_round]
    simp -implicitDefEqProofs (disch := (refine id_ok ?_; first | assumption | omega | (simp [go_sem] <;> omega) | with_unfolding_all rfl | decide)) only [go_sem, Nat.reduceAdd, Nat.reduceSub, Nat.reduceMul, Nat.reduceLeDiff, Nat.reduceEqDiff, Nat.reduceBEq, reduceIte, reduceCtorEq, hd']
  | succ d ih =>
    intro i s a hd hs ha
    have hd' : decide ((i : Int) < n) = true := decide_eq_true (by omega)
    have l1 := tapN_len 1048576 s
    have t1 := tnum_run (g := 1048576) (s := s) (show (h.set t (Tb s))[t]? = some (Tb s) from List.getElem?_set_self ht) hs
    rw [List.set_set] at t1
    simp only [show ((1048576 : Nat) : Int) = 1048576 from rfl] at t1
    have e7 := incP (n := i) (by omega)
    have ih' := ih (i + 1) (tapN 1048576 s).2 (a ++ [((tapN 1048576 s).1 : Int)]) (by omega) (by omega) (by simp; omega)
    simp only [getP]
    generalize tapN 1048576 s = x at *
    have e1 : (a ++ [(x.1 : Int)]).map encI = a.map encI ++ [[.int .i64 (x.1 : Int)]] := by simp [encI]
    rw [List.append_assoc, List.singleton_append] at ih'
    rw [e1] at ih'
    rw [lp_round]
    simp (maxSteps := 2000000) -implicitDefEqProofs (disch := (refine id_ok ?_; first | assumption | omega | (simp [go_sem] <;> omega) | with_unfolding_all rfl | decide)) only [go_sem, Nat.reduceAdd, Nat.reduceSub, Nat.reduceMul, Nat.reduceLeDiff, Nat.reduceEqDiff, Nat.reduceBEq, reduceIte, reduceCtorEq, hd', t1, e7]
    exact ih'
def gtP (s : TS) : List Int × Int × TS :=
  if (getP (tapN 6 s).1 (tapN 6 s).2).2.2 = none then ((getP (tapN 6 s).1 (tapN 6 s).2).1, 0, (getP (tapN 6 s).1 (tapN 6 s).2).2) else ([], 10, (getP (tapN 6 s).1 (tapN 6 s).2).2)
theorem pget_run {t : Nat} {s : TS} {h : AH} (ht : h[t]? = some (Tb s)) (hs : s.1.length ≤ 9223372036854775806) :
    run T 79 [.box t 0] h = some (.tup [ow ((gtP s).1.map encI), .int .i64 (gtP s).2.1], h.set t (Tb (gtP s).2.2)) := by
  have hlt : t < h.length := (List.getElem?_eq_some_iff.1 ht).1
  have t1 := tnum_run (g := 6) ht hs
  simp only [show ((6 : Nat) : Int) = 6 from rfl] at t1
  have l1 := tapN_len 6 s
  have l2 := tapN_le 6 s
  have h2 := pget_loop (h := h) hlt (n := (tapN 6 s).1) (by omega) (tapN 6 s).1 0 (tapN 6 s).2 [] (by omega) (by omega) (by simp)
  simp only [show ((0 : Nat) : Int) = 0 from rfl, List.nil_append, List.map_nil] at h2
  rw [run_code T_79]
  unfold gtP
  generalize getP (tapN 6 s).1 (tapN 6 s).2 = r at *
  have h3 := terr_run (show (h.set t (Tb r.2))[t]? = some (Tb r.2) from List.getElem?_set_self hlt)
  obtain ⟨a, b, e⟩ := r
  simp only at h2 h3 ⊢
  cases e with
  | none =>
    rw [if_pos rfl]
    simp (maxSteps := 2000000) -implicitDefEqProofs (disch := (refine id_ok ?_; first | assumption | omega | (simp [go_sem] <;> omega) | with_unfolding_all rfl | decide)) only [go_sem, Nat.reduceAdd, Nat.reduceSub, Nat.reduceMul, Nat.reduceLeDiff, Nat.reduceEqDiff, Nat.reduceBEq, reduceIte, reduceCtorEq, c_path_Get, t1, h2, h3]
  | some c =>
    rw [if_neg (by simp)]
    simp (maxSteps := 2000000) -implicitDefEqProofs (disch := (refine id_ok ?_; first | assumption | omega | (simp [go_sem] <;> omega) | with_unfolding_all rfl | decide)) only [go_sem, Nat.reduceAdd, Nat.reduceSub, Nat.reduceMul, Nat.reduceLeDiff, Nat.reduceEqDiff, Nat.reduceBEq, reduceIte, reduceCtorEq, c_path_Get, t1, h2, h3, List.map_nil]
theorem flat_num : ∀ (p : List Int), (∀ n ∈ p, 0 ≤ n ∧ n ≤ 1048576) → p.flatMap numA = p.flatMap fun n => num n.toNat
  | [], _ => rfl
  | n :: p, h => by
    obtain ⟨h1, h2⟩ := h n (by simp)
    rw [List.flatMap_cons, List.flatMap_cons, flat_num p fun x hx => h x (List.mem_cons_of_mem _ hx)]
    congr 1
    unfold numA
    rw [if_pos ⟨h1, by omega⟩]
theorem gtP_put {p : List Int} (h : rigP p = true) (rest : List UInt8) : gtP (bytA p ++ rest, none) = (p, 0, rest, none) := by
  obtain ⟨h6, hk⟩ := rigP_all h
  have h1 : tapN 6 (bytA p ++ rest, none) = (p.length, p.flatMap numA ++ rest, none) := by
    unfold bytA
    rw [List.append_assoc]
    exact tapN_num h6 (by omega)
  unfold gtP
  rw [h1]
  simp only
  rw [flat_num p hk, getP_put p rest hk]
  simp
end Go.Proofs.YtlcflpanellbfaaGreatDoor.L
/- Paths compared, the document's way. -/
set_option linter.all false
set_option maxRecDepth 100000
namespace Go.Proofs.YtlcflpanellbfaaGreatDoor.L
open Go.Proofs.YtlcflpanellbfaaGreatDoor.M Go.Proofs.YtlcflpanellbfaaGreatDoor.F Go.Proofs
theorem sm8_loop {a b : List Int} {h : AH} (hl : a.length = b.length) (hs : a.length ≤ 1000000000) : ∀ (d i : Nat), d + i = a.length →
    (decide (a.drop i = b.drop i) = true ∧ den T (.loop l_regencyref08_Same_0) (s_regencyref08_Same_0 (.sl .sh (a.map encI)) (.sl .sh (b.map encI)) (.int .i64 a.length) (.int .i64 i)) h = some (.exit 0, x_regencyref08_Same_0, h)) ∨
    (decide (a.drop i = b.drop i) = false ∧ ∃ σ, den T (.loop l_regencyref08_Same_0) (s_regencyref08_Same_0 (.sl .sh (a.map encI)) (.sl .sh (b.map encI)) (.int .i64 a.length) (.int .i64 i)) h = some (.ret, σ, h) ∧ σ.getD 4 undefA = .bool false) := by
  intro d
  induction d with
  | zero =>
    intro i hd
    have hd' : decide ((i : Int) < a.length) = false := decide_eq_false (by omega)
    refine .inl ⟨by rw [List.drop_eq_nil_of_le (by omega), List.drop_eq_nil_of_le (by omega)]; rfl, ?_⟩
    rw [lp_round]
    simp -implicitDefEqProofs (disch := (refine id_ok ?_; first | assumption | omega | (simp [go_sem] <;> omega) | with_unfolding_all rfl | decide)) only [go_sem, Nat.reduceAdd, Nat.reduceSub, Nat.reduceMul, Nat.reduceLeDiff, Nat.reduceEqDiff, Nat.reduceBEq, reduceIte, reduceCtorEq, hd']
  | succ d ih =>
    intro i hd
    have hia : i < a.length := by omega
    have hib : i < b.length := by omega
    have hd' : decide ((i : Int) < a.length) = true := decide_eq_true (by omega)
    have ga : (a.map encI)[(i : Int).toNat]? = some (encI a[i]) := by simp [hia]
    have gb : (b.map encI)[(i : Int).toNat]? = some (encI b[i]) := by simp [hib]
    have e7 := incP (n := i) (by omega)
    have ih' := ih (i + 1) (by omega)
    have hdr := drop_decI hia hib
    generalize a[i] = x at *
    generalize b[i] = y at *
    rw [hdr]
    simp only [encI] at ga gb
    by_cases hxy : x = y
    · have hx : decide (x = y) = true := decide_eq_true hxy
      have hq : (x != y) = false := by simp [hxy]
      have hstep : den T (.loop l_regencyref08_Same_0) (s_regencyref08_Same_0 (.sl .sh (a.map encI)) (.sl .sh (b.map encI)) (.int .i64 a.length) (.int .i64 i)) h = den T (.loop l_regencyref08_Same_0) (s_regencyref08_Same_0 (.sl .sh (a.map encI)) (.sl .sh (b.map encI)) (.int .i64 a.length) (.int .i64 (i + 1 : Nat))) h := by
        rw [lp_round]
        simp (maxSteps := 2000000) -implicitDefEqProofs (disch := (refine id_ok ?_; first | assumption | omega | (simp [go_sem] <;> omega) | with_unfolding_all rfl | decide)) only [go_sem, Nat.reduceAdd, Nat.reduceSub, Nat.reduceMul, Nat.reduceLeDiff, Nat.reduceEqDiff, Nat.reduceBEq, reduceIte, reduceCtorEq, hd', ga, gb, hq, e7]
        try rfl
      rw [hstep, hx, Bool.true_and]
      exact ih'
    · have hx : decide (x = y) = false := decide_eq_false hxy
      have hq : (x != y) = true := by simp [hxy]
      refine .inr ⟨by rw [hx, Bool.false_and], ?_⟩
      rw [lp_round]
      simp (maxSteps := 2000000) -implicitDefEqProofs (disch := (refine id_ok ?_; first | assumption | omega | (simp [go_sem] <;> omega) | with_unfolding_all rfl | decide)) only [go_sem, Nat.reduceAdd, Nat.reduceSub, Nat.reduceMul, Nat.reduceLeDiff, Nat.reduceEqDiff, Nat.reduceBEq, reduceIte, reduceCtorEq, hd', ga, gb, hq]
      exact ⟨_, rfl, rfl⟩
theorem sm8_run {a b : List Int} {h : AH} (ha : a.length ≤ 1000000000) : run T 43 [.sl .sh (a.map encI), .sl .sh (b.map encI)] h = some (.bool (decide (a = b)), h) := by
  rw [run_code T_43]
  by_cases hl : a.length = b.length
  · have hq : ((a.length : Int) != (b.length : Int)) = false := by simp [hl]
    rcases sm8_loop (h := h) hl ha a.length 0 (by omega) with ⟨h1, h2⟩ | ⟨h1, σ, h2, h3⟩
    · simp only [show ((0 : Nat) : Int) = 0 from rfl, List.drop_zero] at h1 h2
      simp (maxSteps := 2000000) -implicitDefEqProofs (disch := (refine id_ok ?_; first | assumption | omega | (simp [go_sem] <;> omega) | with_unfolding_all rfl | decide)) only [go_sem, Nat.reduceAdd, Nat.reduceSub, Nat.reduceMul, Nat.reduceLeDiff, Nat.reduceEqDiff, Nat.reduceBEq, reduceIte, reduceCtorEq, c_regencyref08_Same, List.length_map, hq, h2, h1]
    · simp only [show ((0 : Nat) : Int) = 0 from rfl, List.drop_zero] at h1 h2
      simp (maxSteps := 2000000) -implicitDefEqProofs (disch := (refine id_ok ?_; first | assumption | omega | (simp [go_sem] <;> omega) | with_unfolding_all rfl | decide)) only [go_sem, Nat.reduceAdd, Nat.reduceSub, Nat.reduceMul, Nat.reduceLeDiff, Nat.reduceEqDiff, Nat.reduceBEq, reduceIte, reduceCtorEq, c_regencyref08_Same, List.length_map, hq, h2, h1, h3]
  · have hq : ((a.length : Int) != (b.length : Int)) = true := by simp; omega
    have hne : decide (a = b) = false := decide_eq_false fun e => hl (by rw [e])
    simp (maxSteps := 2000000) -implicitDefEqProofs (disch := (refine id_ok ?_; first | assumption | omega | (simp [go_sem] <;> omega) | with_unfolding_all rfl | decide)) only [go_sem, Nat.reduceAdd, Nat.reduceSub, Nat.reduceMul, Nat.reduceLeDiff, Nat.reduceEqDiff, Nat.reduceBEq, reduceIte, reduceCtorEq, c_regencyref08_Same, List.length_map, hq, hne]
end Go.Proofs.YtlcflpanellbfaaGreatDoor.L
