/- The document's book: verdicts, notes, bytes. -/
import Derived.Test.YtjeigcnaalleiaaGreatDoorL44
import Derived.Test.YtjeigcnaalleiaaGreatDoorL36
import Derived.Test.YtjeigcnaalleiaaGreatDoorL45
set_option linter.all false
set_option maxRecDepth 100000
namespace Go.Proofs.YtjeigcnaalleiaaGreatDoor.L
open Go.Proofs.YtjeigcnaalleiaaGreatDoor.M Go.Proofs.YtjeigcnaalleiaaGreatDoor.F Go.Proofs

/-- The cells of a document's book: eight numbers, eight replies. -/
def xO (b : List Ln) : List AV := (b.map fun l => AV.int .i64 l.1) ++ b.flatMap fun l => encO l.2
theorem encO_len (o : Option Rep) : (encO o).length = 6 := by cases o <;> rfl
theorem shL_O (o : Option Rep) : shL (encO o) = encR (o.getD zeroR) := by cases o <;> rfl
theorem flatO_len : ∀ b : List Ln, (b.flatMap fun l => encO l.2).length = 6 * b.length
  | [] => rfl
  | l :: b => by rw [List.flatMap_cons, List.length_append, flatO_len b, encO_len, List.length_cons]; omega
theorem flatO_drop : ∀ (b : List Ln) (i : Nat), (b.flatMap fun l => encO l.2).drop (i * 6) = (b.drop i).flatMap fun l => encO l.2
  | [], i => by simp
  | l :: b, 0 => by simp
  | l :: b, i + 1 => by
    rw [List.flatMap_cons, Nat.succ_mul, Nat.add_comm, ← List.drop_drop, List.drop_left' (encO_len l.2), flatO_drop b i]; rfl
theorem flatO_take {b : List Ln} {i : Nat} (hi : i < b.length) : ((b.flatMap fun l => encO l.2).drop (i * 6)).take 6 = encO b[i].2 := by
  rw [flatO_drop, List.drop_eq_getElem_cons hi, List.flatMap_cons, List.take_left' (encO_len _)]
theorem xO_len {b : List Ln} : (xO b).length = 7 * b.length := by simp only [xO, List.length_append, List.length_map, flatO_len]; omega
theorem xO_num {b : List Ln} {i : Nat} (hi : i < b.length) : (xO b)[i]? = some (.int .i64 b[i].1) := by
  unfold xO; rw [List.getElem?_append_left (by simpa using hi)]; simp [hi]
theorem xO_rep {b : List Ln} {i : Nat} (hb : b.length = 8) (hi : i < b.length) : ((xO b).drop (8 + i * 6)).take 6 = encO b[i].2 := by
  unfold xO
  rw [← List.drop_drop, List.drop_left' (by simp [hb]), flatO_take hi]
theorem shL_ints : ∀ b : List Ln, shL (b.map fun l => AV.int .i64 l.1) = b.map fun l => AV.int .i64 l.1
  | [] => rfl
  | l :: b => by rw [List.map_cons, shL, shL_ints b]; rfl
theorem shL_flatO : ∀ b : List Ln, shL (b.flatMap fun l => encO l.2) = (shb b).flatMap fun l => encO l.2
  | [] => rfl
  | l :: b => by rw [List.flatMap_cons, shL_app, shL_O, shL_flatO b]; rfl
theorem shL_xO (b : List Ln) : shL (xO b) = xO (shb b) := by
  unfold xO
  rw [shL_app, shL_ints, shL_flatO]
  congr 1
  unfold shb
  rw [List.map_map]; rfl
theorem shb_len (b : List Ln) : (shb b).length = b.length := by simp [shb]
theorem shb_get {b : List Ln} {i : Nat} (hi : i < b.length) : (shb b)[i]'(by rw [shb_len]; exact hi) = (b[i].1, some (repL b[i])) := by simp [shb]
theorem shb_shb (b : List Ln) : shb (shb b) = shb b := by unfold shb; rw [List.map_map]; rfl
theorem ones_O (o : Option Rep) : onesL (encO o) = true := by cases o <;> rfl
theorem onesL_app : ∀ a b : List AV, onesL a = true → onesL b = true → onesL (a ++ b) = true
  | [], b, _, h => h
  | x :: a, b, h, h2 => by
    simp only [onesL, Bool.and_eq_true, List.cons_append] at h ⊢
    exact ⟨h.1, onesL_app a b h.2 h2⟩
theorem ones_xO (b : List Ln) : onesL (xO b) = true := by
  refine onesL_app _ _ ?_ ?_
  · induction b with
    | nil => rfl
    | cons l b ih => rw [List.map_cons]; exact ih
  · induction b with
    | nil => rfl
    | cons l b ih => rw [List.flatMap_cons]; exact onesL_app _ _ (ones_O _) ih
attribute [go_sem] ones_xO
theorem ovl_left {A R ys : List AV} {i : Nat} (h : i + ys.length ≤ A.length) : ovl (A ++ R) i ys = ovl A i ys ++ R := by
  simp only [ovl]
  rw [List.take_append_of_le_length (by omega), List.drop_append_of_le_length (by omega)]
  simp [List.append_assoc]
theorem ovl_right {A R ys : List AV} {j : Nat} : ovl (A ++ R) (A.length + j) ys = A ++ ovl R j ys := by
  simp only [ovl]
  rw [List.take_append, List.take_of_length_le (by omega), show A.length + j - A.length = j by omega, show A.length + j + ys.length = A.length + (j + ys.length) by omega, ← List.drop_drop, List.drop_left]
  simp [List.append_assoc]
theorem ovl_ints {n : Int} : ∀ {b : List Ln} {k : Nat} (o : Option Rep), k < b.length → ovl (b.map fun l => AV.int .i64 l.1) k [.int .i64 n] = (b.set k (n, o)).map fun l => AV.int .i64 l.1
  | [], k, _, h => by simp at h
  | l :: b, 0, _, h => by simp [ovl]
  | l :: b, k + 1, o, h => by
    have := ovl_ints (n := n) (b := b) (k := k) o (by simpa using h)
    simp only [ovl, List.length_cons, List.length_nil] at this ⊢
    rw [List.set_cons_succ, List.map_cons, List.map_cons, ← this]
    simp
theorem ovl_flatO : ∀ {b : List Ln} {k : Nat} (n : Int) (o : Option Rep), k < b.length → ovl (b.flatMap fun l => encO l.2) (k * 6) (encO o) = (b.set k (n, o)).flatMap fun l => encO l.2
  | [], k, _, _, h => by simp at h
  | l :: b, 0, n, o, h => by
    simp only [ovl, Nat.zero_mul, List.set_cons_zero, List.flatMap_cons, List.take_zero, List.nil_append, Nat.zero_add, encO_len]
    rw [List.drop_left' (encO_len l.2)]
  | l :: b, k + 1, n, o, h => by
    have := ovl_flatO (b := b) (k := k) n o (by simpa using h)
    simp only [ovl, encO_len] at this ⊢
    rw [List.set_cons_succ, List.flatMap_cons, List.flatMap_cons, ← this]
    rw [show (k + 1) * 6 = 6 + k * 6 by omega, List.take_append, List.take_of_length_le (by rw [encO_len]; omega), encO_len, show 6 + k * 6 - 6 = k * 6 by omega]
    rw [show 6 + k * 6 + 6 = 6 + (k * 6 + 6) by omega, ← List.drop_drop, List.drop_left' (encO_len l.2)]
    simp [List.append_assoc]
theorem xO_set {b : List Ln} {k : Nat} {n : Int} {r : Rep} (hb : b.length = 8) (hk : k < b.length) : ovl (ovl (xO b) k [.int .i64 n]) (8 + k * 6) (encR r) = xO (b.set k (n, some r)) := by
  unfold xO
  rw [ovl_left (by simp; omega), ovl_ints (some r) hk]
  have hl : ((b.set k (n, some r)).map fun l => AV.int .i64 l.1).length = 8 := by simp [hb]
  have := ovl_right (A := (b.set k (n, some r)).map fun l => AV.int .i64 l.1) (R := b.flatMap fun l => encO l.2) (ys := encR r) (j := k * 6)
  rw [hl] at this
  rw [this, show encR r = encO (some r) from rfl, ovl_flatO n (some r) hk]
set_option maxHeartbeats 4000000 in
theorem rver_run {b : List Ln} {c n : Int} (hb : b.length = 8) (hs : ∀ l ∈ b, 0 ≤ l.1 ∧ l.1 ≤ 1048576) : run T 10 [.agg (xO b), .int .i64 c, .int .i64 n] [] = some (.int .i64 (verB b c n), []) := by
  have hone : (AV.agg (xO b)).cells.length = 56 := by show (xO b).length = 56; rw [xO_len, hb]
  have hones := ones_xO b
  rw [run_code T_10]
  unfold verB
  by_cases c0 : c < 0
  · have e1 : decide (c < 0) = true := decide_eq_true c0
    rw [if_neg (by omega)]
    simp -implicitDefEqProofs (disch := (refine id_ok ?_; first | assumption | omega | (simp only [go_sem, List.size_toArray, List.length_map, List.length_append, List.length_take, List.length_drop, List.length_cons, List.length_nil, mrLL_app, keyD_i, keyD_s, keyD_b, Nat.reduceAdd, Nat.reduceEqDiff, Nat.reduceLeDiff] <;> omega) | with_unfolding_all rfl | decide)) only [go_sem, Nat.reduceAdd, Nat.reduceSub, Nat.reduceMul, Nat.reduceLeDiff, Nat.reduceEqDiff, Nat.reduceBEq, reduceIte, reduceCtorEq, c_regencyref17_Book_Verdict, e1]
  have e1 : decide (c < 0) = false := decide_eq_false c0
  by_cases c7 : c > 7
  · have e2 : decide (c > 7) = true := decide_eq_true c7
    rw [if_neg (by omega)]
    simp -implicitDefEqProofs (disch := (refine id_ok ?_; first | assumption | omega | (simp only [go_sem, List.size_toArray, List.length_map, List.length_append, List.length_take, List.length_drop, List.length_cons, List.length_nil, mrLL_app, keyD_i, keyD_s, keyD_b, Nat.reduceAdd, Nat.reduceEqDiff, Nat.reduceLeDiff] <;> omega) | with_unfolding_all rfl | decide)) only [go_sem, Nat.reduceAdd, Nat.reduceSub, Nat.reduceMul, Nat.reduceLeDiff, Nat.reduceEqDiff, Nat.reduceBEq, reduceIte, reduceCtorEq, c_regencyref17_Book_Verdict, e1, e2]
  have e2 : decide (c > 7) = false := decide_eq_false c7
  by_cases n1 : n < 1
  · have e3 : decide (n < 1) = true := decide_eq_true n1
    rw [if_neg (by omega)]
    simp -implicitDefEqProofs (disch := (refine id_ok ?_; first | assumption | omega | (simp only [go_sem, List.size_toArray, List.length_map, List.length_append, List.length_take, List.length_drop, List.length_cons, List.length_nil, mrLL_app, keyD_i, keyD_s, keyD_b, Nat.reduceAdd, Nat.reduceEqDiff, Nat.reduceLeDiff] <;> omega) | with_unfolding_all rfl | decide)) only [go_sem, Nat.reduceAdd, Nat.reduceSub, Nat.reduceMul, Nat.reduceLeDiff, Nat.reduceEqDiff, Nat.reduceBEq, reduceIte, reduceCtorEq, c_regencyref17_Book_Verdict, e1, e2, e3]
  have e3 : decide (n < 1) = false := decide_eq_false n1
  by_cases n2 : n > 1048576
  · have e4 : decide (n > 1048576) = true := decide_eq_true n2
    rw [if_neg (by omega)]
    simp -implicitDefEqProofs (disch := (refine id_ok ?_; first | assumption | omega | (simp only [go_sem, List.size_toArray, List.length_map, List.length_append, List.length_take, List.length_drop, List.length_cons, List.length_nil, mrLL_app, keyD_i, keyD_s, keyD_b, Nat.reduceAdd, Nat.reduceEqDiff, Nat.reduceLeDiff] <;> omega) | with_unfolding_all rfl | decide)) only [go_sem, Nat.reduceAdd, Nat.reduceSub, Nat.reduceMul, Nat.reduceLeDiff, Nat.reduceEqDiff, Nat.reduceBEq, reduceIte, reduceCtorEq, c_regencyref17_Book_Verdict, e1, e2, e3, e4]
  have e4 : decide (n > 1048576) = false := decide_eq_false n2
  obtain ⟨k, rfl⟩ : ∃ k : Nat, c = k := ⟨c.toNat, by omega⟩
  have hk : k < b.length := by omega
  have hm := hs b[k] (by simp)
  have hg := xO_num hk
  rw [if_pos (by omega), Int.toNat_natCast, List.getElem?_eq_getElem hk]
  simp only
  generalize b[k] = l at *
  have e5 : IntKind.i64.wrap (n - l.1) = n - l.1 := w64 (by omega) (by omega)
  have hkt : (k : Int).toNat = k := by omega
  by_cases h4 : n < l.1
  · have f1 : decide (n - l.1 < 0) = true := decide_eq_true (by omega)
    rw [if_pos h4]
    simp -implicitDefEqProofs (disch := (refine id_ok ?_; first | assumption | omega | (simp only [go_sem, List.size_toArray, List.length_map, List.length_append, List.length_take, List.length_drop, List.length_cons, List.length_nil, mrLL_app, keyD_i, keyD_s, keyD_b, Nat.reduceAdd, Nat.reduceEqDiff, Nat.reduceLeDiff] <;> omega) | with_unfolding_all rfl | decide)) only [go_sem, Nat.reduceAdd, Nat.reduceSub, Nat.reduceMul, Nat.reduceLeDiff, Nat.reduceEqDiff, Nat.reduceBEq, reduceIte, reduceCtorEq, c_regencyref17_Book_Verdict, e1, e2, e3, e4, hkt, Nat.mul_one, hg, e5, f1]
  have f1 : decide (n - l.1 < 0) = false := decide_eq_false (by omega)
  rw [if_neg h4]
  by_cases h5 : n = l.1
  · have f2 : (n - l.1 == 0) = true := by simp; omega
    rw [if_pos h5]
    simp -implicitDefEqProofs (disch := (refine id_ok ?_; first | assumption | omega | (simp only [go_sem, List.size_toArray, List.length_map, List.length_append, List.length_take, List.length_drop, List.length_cons, List.length_nil, mrLL_app, keyD_i, keyD_s, keyD_b, Nat.reduceAdd, Nat.reduceEqDiff, Nat.reduceLeDiff] <;> omega) | with_unfolding_all rfl | decide)) only [go_sem, Nat.reduceAdd, Nat.reduceSub, Nat.reduceMul, Nat.reduceLeDiff, Nat.reduceEqDiff, Nat.reduceBEq, reduceIte, reduceCtorEq, c_regencyref17_Book_Verdict, e1, e2, e3, e4, hkt, Nat.mul_one, hg, e5, f1, f2]
  have f2 : (n - l.1 == 0) = false := by simp; omega
  rw [if_neg h5]
  by_cases h6 : l.1 + 1 < n
  · have f3 : decide (n - l.1 > 1) = true := decide_eq_true (by omega)
    rw [if_pos h6]
    simp -implicitDefEqProofs (disch := (refine id_ok ?_; first | assumption | omega | (simp only [go_sem, List.size_toArray, List.length_map, List.length_append, List.length_take, List.length_drop, List.length_cons, List.length_nil, mrLL_app, keyD_i, keyD_s, keyD_b, Nat.reduceAdd, Nat.reduceEqDiff, Nat.reduceLeDiff] <;> omega) | with_unfolding_all rfl | decide)) only [go_sem, Nat.reduceAdd, Nat.reduceSub, Nat.reduceMul, Nat.reduceLeDiff, Nat.reduceEqDiff, Nat.reduceBEq, reduceIte, reduceCtorEq, c_regencyref17_Book_Verdict, e1, e2, e3, e4, hkt, Nat.mul_one, hg, e5, f1, f2, f3]
  · have f3 : decide (n - l.1 > 1) = false := decide_eq_false (by omega)
    rw [if_neg h6]
    simp -implicitDefEqProofs (disch := (refine id_ok ?_; first | assumption | omega | (simp only [go_sem, List.size_toArray, List.length_map, List.length_append, List.length_take, List.length_drop, List.length_cons, List.length_nil, mrLL_app, keyD_i, keyD_s, keyD_b, Nat.reduceAdd, Nat.reduceEqDiff, Nat.reduceLeDiff] <;> omega) | with_unfolding_all rfl | decide)) only [go_sem, Nat.reduceAdd, Nat.reduceSub, Nat.reduceMul, Nat.reduceLeDiff, Nat.reduceEqDiff, Nat.reduceBEq, reduceIte, reduceCtorEq, c_regencyref17_Book_Verdict, e1, e2, e3, e4, hkt, Nat.mul_one, hg, e5, f1, f2, f3]
end Go.Proofs.YtjeigcnaalleiaaGreatDoor.L

/- The document's book: notes, bytes. -/
set_option linter.all false
set_option maxRecDepth 100000
namespace Go.Proofs.YtjeigcnaalleiaaGreatDoor.L
open Go.Proofs.YtjeigcnaalleiaaGreatDoor.M Go.Proofs.YtjeigcnaalleiaaGreatDoor.F Go.Proofs

theorem mrL_app0 : ∀ a b : List AV, mrL a = 0 → mrL b = 0 → mrL (a ++ b) = 0
  | [], b, _, h => h
  | x :: a, b, h1, h2 => by
    simp only [mrL, List.cons_append] at h1 ⊢
    have h3 : x.mr = 0 ∧ mrL a = 0 := by omega
    rw [mrL_app0 a b h3.2 h2, h3.1]; rfl
theorem mrL_O (o : Option Rep) : mrL (encO o) = 0 := by
  cases o with
  | none =>
    simp only [encO, mrL, AV.mr, ow_mr, mrLL]
    decide
  | some r =>
    have h1 : mrLL (r.text.map encB) = 0 := mrLL_B
    have h2 : mrLL (r.label.map encE) = 0 := mrLL_E
    have h3 : mrLL (r.kids.map encK) = 0 := mrLL_K
    simp only [encO, encR, mrL, AV.mr, h1, h2, h3]
    decide
theorem mrL_xO (b : List Ln) : mrL (xO b) = 0 := by
  refine mrL_app0 _ _ ?_ ?_
  · induction b with
    | nil => rfl
    | cons l b ih => rw [List.map_cons, mrL, ih]; rfl
  · induction b with
    | nil => rfl
    | cons l b ih => rw [List.flatMap_cons]; exact mrL_app0 _ _ (mrL_O _) ih
attribute [go_sem] mrL_xO
theorem verB_cases (b : List Ln) (c n : Int) : verB b c n = 4 ∨ verB b c n = 1 ∨ verB b c n = 2 ∨ verB b c n = 3 ∨ verB b c n = 0 := by
  unfold verB; split
  · split
    · split
      · simp
      · split
        · simp
        · split <;> simp
    · simp
  · simp
/-- The document's note. -/
def rnotB (b : List Ln) (c n : Int) (r : Rep) : List Ln := if (notB b c n r).1 = 0 then b.set c.toNat (n, some r) else b
theorem st56 {b : List Ln} (hb : b.length = 8) {cs : List AV} (hcs : cs.length = 56) : storeB 56 0 (.agg (xO b)) (some (.cells cs)) = some (.cells (xO b)) := by
  have hlen : (xO b).length = 56 := by rw [xO_len, hb]
  have h0 : Nat.ble (0 + 56) cs.length = true := by rw [hcs]; rfl
  rw [stB_some (v := .agg (xO b)) (N := 56) (off := 0) h0 hlen (ones_xO _)]
  simp only [AV.cells, ovl, List.take_zero, List.nil_append, hlen, Nat.zero_add]
  rw [List.drop_eq_nil_of_le (by omega), List.append_nil]
set_option maxHeartbeats 8000000 in
theorem rnot_run {b : List Ln} {c n : Int} {r : Rep} (hb : b.length = 8) (hsb : shb b = b) (hs : ∀ l ∈ b, 0 ≤ l.1 ∧ l.1 ≤ 1048576) (hk : r.kids.length ≤ 1000000000) (hc : r.cat.length ≤ 1000000000) (hl : ∀ e ∈ r.label, e.1.length ≤ 1000000000) :
    run T 11 [.agg (xO b), .int .i64 c, .int .i64 n, .agg (encR r)] [] = some (.tup [.agg (xO (rnotB b c n r)), .int .i64 (notB b c n r).1], []) := by
  have hv := rver_run (c := c) (n := n) hb hs
  have hr := rrigR_run hk hc hl
  have hvc := @verB_ok b c n
  have hvr := verB_cases b c n
  have hlen : (xO b).length = 56 := by rw [xO_len, hb]
  have hle : Nat.ble 56 (xO b).length = true := by rw [hlen]; rfl
  have htk : (xO b).take 56 = xO b := List.take_of_length_le (by omega)
  have hsh : shL (xO b) = xO b := by rw [shL_xO, hsb]
  have hst := fun cs hcs => st56 (b := b) hb (cs := cs) hcs
  obtain ⟨v, hV⟩ : ∃ v, verB b c n = v := ⟨_, rfl⟩
  rw [hV] at hv hvc hvr
  have hrn : ∀ e, (notB b c n r).1 = e → e ≠ 0 → rnotB b c n r = b := fun e he h0 => by unfold rnotB; rw [he, if_neg h0]
  rw [run_code T_11]
  simp only [encR] at hr
  by_cases h4 : v = 4
  · subst h4
    have q : (notB b c n r).1 = 2 := by unfold notB; rw [if_pos (.inl hV)]
    rw [q, hrn 2 q (by decide)]
    simp (maxSteps := 2000000) -implicitDefEqProofs (disch := (refine id_ok ?_; first | assumption | omega | (simp only [go_sem, List.size_toArray, List.length_map, List.length_append, List.length_take, List.length_drop, List.length_cons, List.length_nil, mrLL_app, keyD_i, keyD_s, keyD_b, Nat.reduceAdd, Nat.reduceEqDiff, Nat.reduceLeDiff] <;> omega) | with_unfolding_all rfl | decide)) only [go_sem, Nat.reduceAdd, Nat.reduceSub, Nat.reduceMul, Nat.reduceLeDiff, Nat.reduceEqDiff, Nat.reduceBEq, reduceIte, reduceCtorEq, c_regencyref17_Book_Note, encR, hle, htk, List.drop_zero, hsh, hv, hst, show ((4 : Int) == 4) = true from rfl]
  · have e4 : (v == 4) = false := by simp [h4]
    cases hrr : rigR r with
    | false =>
      rw [hrr] at hr
      have q : (notB b c n r).1 = 2 := by unfold notB; rw [if_pos (.inr hrr)]
      rw [q, hrn 2 q (by decide)]
      simp (maxSteps := 2000000) -implicitDefEqProofs (disch := (refine id_ok ?_; first | assumption | omega | (simp only [go_sem, List.size_toArray, List.length_map, List.length_append, List.length_take, List.length_drop, List.length_cons, List.length_nil, mrLL_app, keyD_i, keyD_s, keyD_b, Nat.reduceAdd, Nat.reduceEqDiff, Nat.reduceLeDiff] <;> omega) | with_unfolding_all rfl | decide)) only [go_sem, Nat.reduceAdd, Nat.reduceSub, Nat.reduceMul, Nat.reduceLeDiff, Nat.reduceEqDiff, Nat.reduceBEq, reduceIte, reduceCtorEq, c_regencyref17_Book_Note, encR, hle, htk, List.drop_zero, hsh, hv, hst, e4, hr]
    | true =>
      rw [hrr] at hr
      by_cases h3 : v = 3
      · subst h3
        have q : (notB b c n r).1 = 41 := by unfold notB; rw [hV, hrr, if_neg (by simp), if_neg (by simp), if_pos rfl]
        rw [q, hrn 41 q (by decide)]
        simp (maxSteps := 2000000) -implicitDefEqProofs (disch := (refine id_ok ?_; first | assumption | omega | (simp only [go_sem, List.size_toArray, List.length_map, List.length_append, List.length_take, List.length_drop, List.length_cons, List.length_nil, mrLL_app, keyD_i, keyD_s, keyD_b, Nat.reduceAdd, Nat.reduceEqDiff, Nat.reduceLeDiff] <;> omega) | with_unfolding_all rfl | decide)) only [go_sem, Nat.reduceAdd, Nat.reduceSub, Nat.reduceMul, Nat.reduceLeDiff, Nat.reduceEqDiff, Nat.reduceBEq, reduceIte, reduceCtorEq, c_regencyref17_Book_Note, encR, hle, htk, List.drop_zero, hsh, hv, hst, e4, hr, show ((3 : Int) == 3) = true from rfl]
      · have e3 : (v == 3) = false := by simp [h3]
        by_cases h12 : v = 1 ∨ v = 2
        · have e0 : (v != 0) = true := by rcases h12 with rfl | rfl <;> rfl
          have q : (notB b c n r).1 = 40 := by unfold notB; rw [hV, hrr, if_neg (by simp [h4]), if_pos h12]
          rw [q, hrn 40 q (by decide)]
          simp (maxSteps := 2000000) -implicitDefEqProofs (disch := (refine id_ok ?_; first | assumption | omega | (simp only [go_sem, List.size_toArray, List.length_map, List.length_append, List.length_take, List.length_drop, List.length_cons, List.length_nil, mrLL_app, keyD_i, keyD_s, keyD_b, Nat.reduceAdd, Nat.reduceEqDiff, Nat.reduceLeDiff] <;> omega) | with_unfolding_all rfl | decide)) only [go_sem, Nat.reduceAdd, Nat.reduceSub, Nat.reduceMul, Nat.reduceLeDiff, Nat.reduceEqDiff, Nat.reduceBEq, reduceIte, reduceCtorEq, c_regencyref17_Book_Note, encR, hle, htk, List.drop_zero, hsh, hv, hst, e4, hr, e3, e0]
        · have h0 : v = 0 := by omega
          subst h0
          have q : (notB b c n r).1 = 0 := by unfold notB; rw [hV, hrr, if_neg (by simp), if_neg h12, if_neg h3]
          have rn : rnotB b c n r = b.set c.toNat (n, some r) := by unfold rnotB; rw [q, if_pos rfl]
          rw [q, rn]
          obtain ⟨hc0, hc8, hn1, hn2⟩ := hvc h4
          obtain ⟨k, rfl⟩ : ∃ k : Nat, c = k := ⟨c.toNat, by omega⟩
          have hk : k < b.length := by omega
          have hkt : (k : Int).toNat = k := by omega
          have hlb : (b.set k (n, some r)).length = 8 := by simp [hb]
          have hsb2 : shb (b.set k (n, some r)) = b.set k (n, some r) := by
            unfold shb at hsb ⊢
            rw [List.map_set, hsb]; rfl
          have hxs := xO_set (n := n) (r := r) hb hk
          have hY' : List.take k (xO b) ++ AV.int .i64 n :: List.drop (k + 1) (xO b) = ovl (xO b) k [.int .i64 n] := by simp [ovl]
          have hl1 : (ovl (xO b) k [.int .i64 n]).length = 56 := by simp [ovl, hlen]; omega
          have hb1 : Nat.ble (k + 1) (xO b).length = true := by rw [hlen]; exact Nat.ble_eq_true_of_le (by omega)
          have hb2 : Nat.ble (8 + k * 6 + 6) (ovl (xO b) k [.int .i64 n]).length = true := by rw [hl1]; exact Nat.ble_eq_true_of_le (by omega)
          have hsh2 : shL (xO (b.set k (n, some r))) = xO (b.set k (n, some r)) := by rw [shL_xO, hsb2]
          have hlen2 : (xO (b.set k (n, some r))).length = 56 := by rw [xO_len, hlb]
          have hle2 : Nat.ble 56 (xO (b.set k (n, some r))).length = true := by rw [hlen2]; rfl
          have htk2 : (xO (b.set k (n, some r))).take 56 = xO (b.set k (n, some r)) := List.take_of_length_le (by omega)
          have hst2 := fun cs hcs => st56 (b := b.set k (n, some r)) hlb (cs := cs) hcs
          rw [Int.toNat_natCast]
          simp only [encR] at hxs
          generalize ovl (xO b) k [.int .i64 n] = Y at *
          simp only [ovl, List.cons_append, List.nil_append, List.length_cons, List.length_nil, List.append_assoc, Nat.zero_add, Nat.reduceAdd] at hxs
          simp (maxSteps := 4000000) -implicitDefEqProofs (disch := (refine id_ok ?_; first | assumption | omega | (simp only [go_sem, List.size_toArray, List.length_map, List.length_append, List.length_take, List.length_drop, List.length_cons, List.length_nil, mrLL_app, keyD_i, keyD_s, keyD_b, Nat.reduceAdd, Nat.reduceEqDiff, Nat.reduceLeDiff] <;> omega) | with_unfolding_all rfl | decide)) only [go_sem, Nat.reduceAdd, Nat.reduceSub, Nat.reduceMul, Nat.reduceLeDiff, Nat.reduceEqDiff, Nat.reduceBEq, reduceIte, reduceCtorEq, c_regencyref17_Book_Note, encR, hle, htk, List.drop_zero, hsh, hv, hst, show ((0 : Int) == 4) = false from rfl, hr, show ((0 : Int) == 3) = false from rfl, show ((0 : Int) != 0) = false from rfl, hkt, Nat.mul_one, hb1, hY', hb2, hxs, hsh2, hle2, htk2, hst2]
set_option maxHeartbeats 4000000 in
theorem rbyt_loop {b : List Ln} (hb : b.length = 8) (hok : ∀ l ∈ b, (0 ≤ l.1 ∧ l.1 ≤ 1048576) ∧ (l.1 ≠ 0 → rigR (repL l) = true)) : ∀ (d i : Nat) (w : List UInt8), d + i = 8 → w.length ≤ 3000 * i →
    den T (.loop l_regencyref17_Book_Bytes_0) (s_regencyref17_Book_Bytes_0 (.box 0 0) (.str ⟨w.toArray⟩) (.int .i64 i)) [.cells (xO b)] = some (.exit 0, x_regencyref17_Book_Bytes_0 (.str ⟨(w ++ (b.drop i).flatMap enL1).toArray⟩), [.cells (xO b)]) := by
  intro d
  induction d with
  | zero =>
    intro i w hd hw
    have hd' : decide ((i : Int) < 8) = false := decide_eq_false (by omega)
    rw [List.drop_eq_nil_of_le (by omega), List.flatMap_nil, List.append_nil]
    rw [lp_round]
    simp -implicitDefEqProofs (disch := (refine id_ok ?_; first | assumption | omega | (simp only [go_sem, List.size_toArray, List.length_map, List.length_append, List.length_take, List.length_drop, List.length_cons, List.length_nil, mrLL_app, keyD_i, keyD_s, keyD_b, Nat.reduceAdd, Nat.reduceEqDiff, Nat.reduceLeDiff] <;> omega) | with_unfolding_all rfl | decide)) only [go_sem, Nat.reduceAdd, Nat.reduceSub, Nat.reduceMul, Nat.reduceLeDiff, Nat.reduceEqDiff, Nat.reduceBEq, reduceIte, reduceCtorEq, hd']
  | succ d ih =>
    intro i w hd hw
    have hib : i < b.length := by omega
    have hd' : decide ((i : Int) < 8) = true := decide_eq_true (by omega)
    have hdr : b.drop i = b[i] :: b.drop (i + 1) := List.drop_eq_getElem_cons hib
    have hg := xO_num hib
    have hgr := xO_rep hb hib
    have hcl := hok b[i] (by simp)
    have hit : (i : Int).toNat = i := by omega
    have hlen : (xO b).length = 56 := by rw [xO_len, hb]
    have hle : Nat.ble (8 + i * 6 + 6) (xO b).length = true := by rw [hlen]; exact Nat.ble_eq_true_of_le (by omega)
    rw [hdr]
    generalize b[i] = l at *
    have hshl := shL_O l.2
    obtain ⟨n, o⟩ := l
    try simp only at hcl hg hgr hshl
    obtain ⟨⟨h1, h2⟩, hr⟩ := hcl
    obtain ⟨n, rfl⟩ : ∃ k : Nat, n = k := ⟨n.toNat, by omega⟩
    have n1 := num_len (n := n) (by omega)
    have t1 := rn_run n (h := []) (by omega)
    have e7 := inc64 (n := i) (by omega)
    simp only [List.flatMap_cons]
    by_cases h0 : n = 0
    · have e0 : ((n : Int) != 0) = false := by simp [h0]
      have hen : enL1 ((n : Int), o) = num n := by unfold enL1; rw [if_neg (by simp only; omega)]; simp
      have ih' := ih (i + 1) (w ++ num n) (by omega) (by simp only [List.length_append]; omega)
      rw [hen]
      simp only [List.append_assoc] at ih'
      rw [lp_round]
      simp (maxSteps := 2000000) -implicitDefEqProofs (disch := (refine id_ok ?_; first | assumption | omega | (simp only [go_sem, List.size_toArray, List.length_map, List.length_append, List.length_take, List.length_drop, List.length_cons, List.length_nil, mrLL_app, keyD_i, keyD_s, keyD_b, Nat.reduceAdd, Nat.reduceEqDiff, Nat.reduceLeDiff] <;> omega) | with_unfolding_all rfl | decide)) only [go_sem, Nat.reduceAdd, Nat.reduceSub, Nat.reduceMul, Nat.reduceLeDiff, Nat.reduceEqDiff, Nat.reduceBEq, reduceIte, reduceCtorEq, hd', hit, Nat.mul_one, hg, t1, e0, e7]
      exact ih'
    · have e0 : ((n : Int) != 0) = true := by simp [h0]
      have hrr := hr (by omega)
      have hby : bytR (repL ((n : Int), o)) = byR (repL ((n : Int), o)) := by unfold bytR; rw [if_pos hrr]
      have hbl := bytR_len (repL ((n : Int), o))
      rw [hby] at hbl
      have hen : enL1 ((n : Int), o) = num n ++ (num (byR (repL ((n : Int), o))).length ++ byR (repL ((n : Int), o))) := by unfold enL1; rw [if_pos (by simp only; omega), hby]; rfl
      have n2 := num_len (n := (byR (repL ((n : Int), o))).length) (by omega)
      have t2 := rb_run hrr
      have t3 := rt_run (s := byR (repL ((n : Int), o))) (h := []) (by omega)
      have ih' := ih (i + 1) (w ++ num n ++ (num (byR (repL ((n : Int), o))).length ++ byR (repL ((n : Int), o)))) (by omega) (by simp only [List.length_append]; omega)
      rw [hen]
      have hshl' : shL (encO o) = encR (repL ((n : Int), o)) := hshl
      simp only [List.append_assoc] at ih' ⊢
      generalize repL ((n : Int), o) = r at *
      simp only [encR] at hshl' t2
      rw [lp_round]
      simp (maxSteps := 2000000) -implicitDefEqProofs (disch := (refine id_ok ?_; first | assumption | omega | (simp only [go_sem, List.size_toArray, List.length_map, List.length_append, List.length_take, List.length_drop, List.length_cons, List.length_nil, mrLL_app, keyD_i, keyD_s, keyD_b, Nat.reduceAdd, Nat.reduceEqDiff, Nat.reduceLeDiff] <;> omega) | with_unfolding_all rfl | decide)) only [go_sem, Nat.reduceAdd, Nat.reduceSub, Nat.reduceMul, Nat.reduceLeDiff, Nat.reduceEqDiff, Nat.reduceBEq, reduceIte, reduceCtorEq, hd', hit, Nat.mul_one, hg, hgr, hle, hshl', t1, t2, t3, e0, e7, List.append_assoc]
      exact ih'
theorem rbyt_run {b : List Ln} (hb : b.length = 8) (hok : ∀ l ∈ b, (0 ≤ l.1 ∧ l.1 ≤ 1048576) ∧ (l.1 ≠ 0 → rigR (repL l) = true)) : run T 14 [.agg (xO b)] [] = some (.str ⟨(b.flatMap enL1).toArray⟩, []) := by
  have h1 := rbyt_loop hb hok 8 0 [] rfl (by simp)
  rw [List.drop_zero, List.nil_append] at h1
  simp only [show ((0 : Nat) : Int) = 0 from rfl] at h1
  rw [run_code T_14]
  simp -implicitDefEqProofs (disch := (refine id_ok ?_; first | assumption | omega | (simp only [go_sem, List.size_toArray, List.length_map, List.length_append, List.length_take, List.length_drop, List.length_cons, List.length_nil, mrLL_app, keyD_i, keyD_s, keyD_b, Nat.reduceAdd, Nat.reduceEqDiff, Nat.reduceLeDiff] <;> omega) | with_unfolding_all rfl | decide)) only [go_sem, Nat.reduceAdd, Nat.reduceSub, Nat.reduceMul, Nat.reduceLeDiff, Nat.reduceEqDiff, Nat.reduceBEq, reduceIte, reduceCtorEq, c_regencyref17_Book_Bytes, h1]
end Go.Proofs.YtjeigcnaalleiaaGreatDoor.L
