/- Books: copies, verdicts, the last reply. -/
import Derived.Test.YtjeigcnaalleiaaGreatDoorL30
set_option linter.all false
set_option maxRecDepth 100000
namespace Go.Proofs.YtjeigcnaalleiaaGreatDoor.L
open Go.Proofs.YtjeigcnaalleiaaGreatDoor.M Go.Proofs.YtjeigcnaalleiaaGreatDoor.F Go.Proofs

theorem repRes_fst (b : List UInt8) : ∃ e : AV, repRes b = .tup [.agg (encR ((parR b).getD zeroR)), e] ∧ e.sh = e ∧ e.mr = 0 := by
  unfold repRes
  cases parR b with
  | some r => exact ⟨_, rfl, rfl, rfl⟩
  | none => exact ⟨_, rfl, by unfold rerr; cases tapE (rdR b).s <;> rfl, by unfold rerr; cases tapE (rdR b).s <;> rfl⟩
/-- A reply copied. -/
def copR (r : Rep) : Rep := (parR (bytR r)).getD zeroR
theorem bytR_len (r : Rep) : (bytR r).length ≤ 2000 := by
  unfold bytR
  split
  · rename_i h
    obtain ⟨he, hn, ht, hc, _, _, hl8, hl, hk16, hk⟩ := rigR_all h
    have fl := flatMap_len (f := enE1) r.label fun e he => enE1_len (hl e he)
    have fk := flatMap_len (f := enK1) r.kids fun e he => enK1_len (hk e he)
    have n1 := num_len (n := r.e.toNat) (by omega)
    have n2 := num_len (n := r.n.toNat) (by omega)
    have n3 := num_len (n := r.text.length) (by omega)
    have n4 := num_len (n := r.cat.length) (by omega)
    have n5 := num_len (n := r.label.length) (by omega)
    have n6 := num_len (n := r.kids.length) (by omega)
    simp only [byR, List.length_append]
    omega
  · simp
theorem copR_run {r : Rep} (ho : okR r) : run T 33 [.agg (encR r)] [] = some (.agg (encR (copR r)), []) := by
  have h1 := bytR_run ho
  have hl := bytR_len r
  have h2 := fun h => parR_run (b := bytR r) (h := h) (by omega)
  obtain ⟨e, he, hsh, hmr⟩ := repRes_fst (bytR r)
  rw [he] at h2
  unfold copR
  generalize (parR (bytR r)).getD zeroR = q at *
  rw [run_code T_33]
  simp only [encR] at h1 h2 ⊢
  simp (maxSteps := 2000000) -implicitDefEqProofs (disch := (refine id_ok ?_; first | assumption | omega | (simp only [go_sem, List.size_toArray, List.length_map, List.length_append, List.length_take, List.length_drop, List.length_cons, List.length_nil, mrLL_app, keyD_i, keyD_s, keyD_b, Nat.reduceAdd, Nat.reduceEqDiff, Nat.reduceLeDiff] <;> omega) | with_unfolding_all rfl | decide)) only [go_sem, Nat.reduceAdd, Nat.reduceSub, Nat.reduceMul, Nat.reduceLeDiff, Nat.reduceEqDiff, Nat.reduceBEq, reduceIte, reduceCtorEq, c_clients_copied, h1, h2, hsh]
theorem known_run {c : Int} {h : AH} : run T 32 [.int .i64 c] h = some (.bool (decide (0 ≤ c ∧ c < 8)), h) := by
  rw [run_code T_32]
  by_cases h1 : 0 ≤ c
  · have e1 : decide (c ≥ 0) = true := decide_eq_true h1
    have e2 : decide (0 ≤ c ∧ c < 8) = decide (c < 8) := by simp [h1]
    rw [e2]
    simp -implicitDefEqProofs (disch := (refine id_ok ?_; first | assumption | omega | (simp only [go_sem, List.size_toArray, List.length_map, List.length_append, List.length_take, List.length_drop, List.length_cons, List.length_nil, mrLL_app, keyD_i, keyD_s, keyD_b, Nat.reduceAdd, Nat.reduceEqDiff, Nat.reduceLeDiff] <;> omega) | with_unfolding_all rfl | decide)) only [go_sem, Nat.reduceAdd, Nat.reduceSub, Nat.reduceMul, Nat.reduceLeDiff, Nat.reduceEqDiff, Nat.reduceBEq, reduceIte, reduceCtorEq, c_clients_known, e1]
  · have e1 : decide (c ≥ 0) = false := decide_eq_false h1
    have e2 : decide (0 ≤ c ∧ c < 8) = false := decide_eq_false (fun x => h1 x.1)
    rw [e2]
    simp -implicitDefEqProofs (disch := (refine id_ok ?_; first | assumption | omega | (simp only [go_sem, List.size_toArray, List.length_map, List.length_append, List.length_take, List.length_drop, List.length_cons, List.length_nil, mrLL_app, keyD_i, keyD_s, keyD_b, Nat.reduceAdd, Nat.reduceEqDiff, Nat.reduceLeDiff] <;> omega) | with_unfolding_all rfl | decide)) only [go_sem, Nat.reduceAdd, Nat.reduceSub, Nat.reduceMul, Nat.reduceLeDiff, Nat.reduceEqDiff, Nat.reduceBEq, reduceIte, reduceCtorEq, c_clients_known, e1]

/-! ### the lines of a book -/
abbrev Ln := Int × Option Rep   -- none: as it was made
def repL (l : Ln) : Rep := l.2.getD zeroR
def encO : Option Rep → List AV
  | none => [.int .i64 0, .int .i64 0, ow [], .str ⟨#[]⟩, ow [], ow []]
  | some r => encR r
def encL (l : Ln) : List AV := .int .i64 l.1 :: encO l.2
theorem shL_L (l : Ln) : shL (encL l) = .int .i64 l.1 :: encR (repL l) := by obtain ⟨n, o⟩ := l; cases o <;> rfl
theorem encL_0 (l : Ln) : (encL l)[0]? = some (.int .i64 l.1) := rfl
def Bk (b : List Ln) : Bx := .cells (b.flatMap encL)
theorem encL_len (l : Ln) : (encL l).length = 7 := by obtain ⟨n, o⟩ := l; cases o <;> rfl
theorem flat_len : ∀ b : List Ln, (b.flatMap encL).length = 7 * b.length
  | [] => rfl
  | l :: b => by rw [List.flatMap_cons, List.length_append, flat_len b, encL_len, List.length_cons]; omega
theorem flat_drop : ∀ (b : List Ln) (i : Nat), (b.flatMap encL).drop (i * 7) = (b.drop i).flatMap encL
  | [], i => by simp
  | l :: b, 0 => by simp
  | l :: b, i + 1 => by
    rw [List.flatMap_cons, Nat.succ_mul, Nat.add_comm, ← List.drop_drop, List.drop_left' (encL_len l), flat_drop b i]; rfl
theorem flat_take {b : List Ln} {i : Nat} (hi : i < b.length) : ((b.flatMap encL).drop (i * 7)).take 7 = encL b[i] := by
  rw [flat_drop, List.drop_eq_getElem_cons hi, List.flatMap_cons, List.take_left' (encL_len _)]
theorem flat_get {b : List Ln} {i k : Nat} (hi : i < b.length) (hk : k < 7) : (b.flatMap encL)[i * 7 + k]? = (encL b[i])[k]? := by
  rw [← flat_take hi, List.getElem?_take_of_lt hk, List.getElem?_drop]
theorem flat_ovl : ∀ {b : List Ln} {i : Nat} (x : Ln), i < b.length → ovl (b.flatMap encL) (i * 7) (encL x) = (b.set i x).flatMap encL
  | [], i, x, h => by simp at h
  | l :: b, 0, x, h => by
    simp only [ovl, Nat.zero_mul, List.set_cons_zero, List.flatMap_cons, List.take_zero, List.nil_append, Nat.zero_add, encL_len]
    rw [List.drop_left' (encL_len l)]
  | l :: b, i + 1, x, h => by
    have := flat_ovl (b := b) (i := i) x (by simpa using h)
    simp only [ovl, encL_len] at this ⊢
    rw [List.set_cons_succ, List.flatMap_cons, List.flatMap_cons, ← this]
    rw [show (i + 1) * 7 = 7 + i * 7 by omega, List.take_append, List.take_of_length_le (by rw [encL_len]; omega), encL_len, show 7 + i * 7 - 7 = i * 7 by omega]
    rw [show 7 + i * 7 + 7 = 7 + (i * 7 + 7) by omega, ← List.drop_drop, List.drop_left' (encL_len l)]
    simp [List.append_assoc]
def wrong : Int := 4
/-- A verdict. -/
def verB (b : List Ln) (c n : Int) : Int :=
  if 0 ≤ c ∧ c < 8 ∧ 1 ≤ n ∧ n ≤ 1048576 then
    match b[c.toNat]? with
    | some l => if n < l.1 then 2 else if n = l.1 then 1 else if l.1 + 1 < n then 3 else 0
    | none => 4
  else 4
end Go.Proofs.YtjeigcnaalleiaaGreatDoor.L

/- Books: verdicts, the last reply, notes. -/
set_option linter.all false
set_option maxRecDepth 100000
namespace Go.Proofs.YtjeigcnaalleiaaGreatDoor.L
open Go.Proofs.YtjeigcnaalleiaaGreatDoor.M Go.Proofs.YtjeigcnaalleiaaGreatDoor.F Go.Proofs

theorem ver_run {p : Nat} {b : List Ln} {c n : Int} {h : AH} (hp : h[p]? = some (Bk b)) (hb : b.length = 8) (hs : ∀ l ∈ b, 0 ≤ l.1 ∧ l.1 ≤ 1048576) : run T 9 [.box p 0, .int .i64 c, .int .i64 n] h = some (.int .i64 (verB b c n), h) := by
  have k1 := known_run (c := c) (h := [])
  rw [run_code T_9]
  unfold verB
  by_cases h1 : 0 ≤ c ∧ c < 8
  · obtain ⟨k, rfl⟩ : ∃ k : Nat, c = k := ⟨c.toNat, by omega⟩
    rw [decide_eq_true h1] at k1
    by_cases h2 : n < 1
    · have e2 : decide (n < 1) = true := decide_eq_true h2
      rw [if_neg (by omega)]
      simp -implicitDefEqProofs (disch := (refine id_ok ?_; first | assumption | omega | (simp only [go_sem, List.size_toArray, List.length_map, List.length_append, List.length_take, List.length_drop, List.length_cons, List.length_nil, mrLL_app, keyD_i, keyD_s, keyD_b, Nat.reduceAdd, Nat.reduceEqDiff, Nat.reduceLeDiff] <;> omega) | with_unfolding_all rfl | decide)) only [go_sem, Nat.reduceAdd, Nat.reduceSub, Nat.reduceMul, Nat.reduceLeDiff, Nat.reduceEqDiff, Nat.reduceBEq, reduceIte, reduceCtorEq, c_clients_Book_Verdict, k1, e2]
    · have e2 : decide (n < 1) = false := decide_eq_false h2
      by_cases h3 : n > 1048576
      · have e3 : decide (n > 1048576) = true := decide_eq_true h3
        rw [if_neg (by omega)]
        simp -implicitDefEqProofs (disch := (refine id_ok ?_; first | assumption | omega | (simp only [go_sem, List.size_toArray, List.length_map, List.length_append, List.length_take, List.length_drop, List.length_cons, List.length_nil, mrLL_app, keyD_i, keyD_s, keyD_b, Nat.reduceAdd, Nat.reduceEqDiff, Nat.reduceLeDiff] <;> omega) | with_unfolding_all rfl | decide)) only [go_sem, Nat.reduceAdd, Nat.reduceSub, Nat.reduceMul, Nat.reduceLeDiff, Nat.reduceEqDiff, Nat.reduceBEq, reduceIte, reduceCtorEq, c_clients_Book_Verdict, k1, e2, e3]
      · have e3 : decide (n > 1048576) = false := decide_eq_false h3
        have hk : k < b.length := by omega
        have hm := hs b[k] (by simp)
        have hg := flat_get (b := b) (i := k) (k := 0) hk (by omega)
        rw [if_pos (by omega), Int.toNat_natCast, List.getElem?_eq_getElem hk]
        simp only
        rw [encL_0, Nat.add_zero] at hg
        have ki : (0 ≤ (k : Int) ∧ (k : Int) < 8) = True := by simp; omega
        generalize b[k] = l at *
        have e7 : IntKind.i64.wrap (l.1 + 1) = l.1 + 1 := w64 (by omega) (by omega)
        by_cases h4 : n < l.1
        · have e4 : decide (n < l.1) = true := decide_eq_true h4
          rw [if_pos h4]
          simp -implicitDefEqProofs (disch := (refine id_ok ?_; first | assumption | omega | (simp only [go_sem, List.size_toArray, List.length_map, List.length_append, List.length_take, List.length_drop, List.length_cons, List.length_nil, mrLL_app, keyD_i, keyD_s, keyD_b, Nat.reduceAdd, Nat.reduceEqDiff, Nat.reduceLeDiff] <;> omega) | with_unfolding_all rfl | decide)) only [go_sem, Nat.reduceAdd, Nat.reduceSub, Nat.reduceMul, Nat.reduceLeDiff, Nat.reduceEqDiff, Nat.reduceBEq, reduceIte, reduceCtorEq, c_clients_Book_Verdict, k1, e2, e3, hp, Bk, Int.toNat_natCast, hg, e4]
        · have e4 : decide (n < l.1) = false := decide_eq_false h4
          rw [if_neg h4]
          by_cases h5 : n = l.1
          · have e5 : (n == l.1) = true := by simp [h5]
            rw [if_pos h5]
            simp -implicitDefEqProofs (disch := (refine id_ok ?_; first | assumption | omega | (simp only [go_sem, List.size_toArray, List.length_map, List.length_append, List.length_take, List.length_drop, List.length_cons, List.length_nil, mrLL_app, keyD_i, keyD_s, keyD_b, Nat.reduceAdd, Nat.reduceEqDiff, Nat.reduceLeDiff] <;> omega) | with_unfolding_all rfl | decide)) only [go_sem, Nat.reduceAdd, Nat.reduceSub, Nat.reduceMul, Nat.reduceLeDiff, Nat.reduceEqDiff, Nat.reduceBEq, reduceIte, reduceCtorEq, c_clients_Book_Verdict, k1, e2, e3, hp, Bk, Int.toNat_natCast, hg, e4, e5]
          · have e5 : (n == l.1) = false := by simp [h5]
            rw [if_neg h5]
            by_cases h6 : l.1 + 1 < n
            · have e6 : decide (n > l.1 + 1) = true := decide_eq_true (by omega)
              rw [if_pos h6]
              simp -implicitDefEqProofs (disch := (refine id_ok ?_; first | assumption | omega | (simp only [go_sem, List.size_toArray, List.length_map, List.length_append, List.length_take, List.length_drop, List.length_cons, List.length_nil, mrLL_app, keyD_i, keyD_s, keyD_b, Nat.reduceAdd, Nat.reduceEqDiff, Nat.reduceLeDiff] <;> omega) | with_unfolding_all rfl | decide)) only [go_sem, Nat.reduceAdd, Nat.reduceSub, Nat.reduceMul, Nat.reduceLeDiff, Nat.reduceEqDiff, Nat.reduceBEq, reduceIte, reduceCtorEq, c_clients_Book_Verdict, k1, e2, e3, hp, Bk, Int.toNat_natCast, hg, e4, e5, e6, e7]
            · have e6 : decide (n > l.1 + 1) = false := decide_eq_false (by omega)
              rw [if_neg h6]
              simp -implicitDefEqProofs (disch := (refine id_ok ?_; first | assumption | omega | (simp only [go_sem, List.size_toArray, List.length_map, List.length_append, List.length_take, List.length_drop, List.length_cons, List.length_nil, mrLL_app, keyD_i, keyD_s, keyD_b, Nat.reduceAdd, Nat.reduceEqDiff, Nat.reduceLeDiff] <;> omega) | with_unfolding_all rfl | decide)) only [go_sem, Nat.reduceAdd, Nat.reduceSub, Nat.reduceMul, Nat.reduceLeDiff, Nat.reduceEqDiff, Nat.reduceBEq, reduceIte, reduceCtorEq, c_clients_Book_Verdict, k1, e2, e3, hp, Bk, Int.toNat_natCast, hg, e4, e5, e6, e7]
  · rw [decide_eq_false h1] at k1
    rw [if_neg (by omega)]
    simp -implicitDefEqProofs (disch := (refine id_ok ?_; first | assumption | omega | (simp only [go_sem, List.size_toArray, List.length_map, List.length_append, List.length_take, List.length_drop, List.length_cons, List.length_nil, mrLL_app, keyD_i, keyD_s, keyD_b, Nat.reduceAdd, Nat.reduceEqDiff, Nat.reduceLeDiff] <;> omega) | with_unfolding_all rfl | decide)) only [go_sem, Nat.reduceAdd, Nat.reduceSub, Nat.reduceMul, Nat.reduceLeDiff, Nat.reduceEqDiff, Nat.reduceBEq, reduceIte, reduceCtorEq, c_clients_Book_Verdict, k1]
/-- The last reply to a client. -/
def lstB (b : List Ln) (c : Int) : Int × Rep :=
  if 0 ≤ c ∧ c < 8 then match b[c.toNat]? with | some l => (l.1, copR (repL l)) | none => (0, zeroR) else (0, zeroR)
theorem shL_R (r : Rep) : shL (encR r) = encR r := rfl
theorem lst_run {p : Nat} {b : List Ln} {c : Int} {h : AH} (hp : h[p]? = some (Bk b)) (hb : b.length = 8) (ho : ∀ l ∈ b, okR (repL l)) : run T 15 [.box p 0, .int .i64 c] h = some (.tup [.int .i64 (lstB b c).1, .agg (encR (lstB b c).2)], h) := by
  have hlt : p < h.length := (List.getElem?_eq_some_iff.1 hp).1
  have k1 := known_run (c := c) (h := [])
  have gp : ∀ js : AH, (h ++ js)[p]? = some (Bk b) := fun js => by rw [List.getElem?_append_left hlt]; exact hp
  have hl1 : ∀ x : Bx, (h ++ [x]).length = h.length + 1 := fun x => by simp
  rw [run_code T_15]
  unfold lstB
  by_cases h1 : 0 ≤ c ∧ c < 8
  · obtain ⟨k, rfl⟩ : ∃ k : Nat, c = k := ⟨c.toNat, by omega⟩
    rw [decide_eq_true h1] at k1
    have hk : k < b.length := by omega
    have hc := copR_run (ho b[k] (by simp))
    have hle : Nat.ble (k * 7 + 7) (b.flatMap encL).length = true := by rw [flat_len]; exact Nat.ble_eq_true_of_le (by omega)
    have ht := flat_take (b := b) (i := k) hk
    rw [if_pos h1, Int.toNat_natCast, List.getElem?_eq_getElem hk]
    simp only
    generalize b[k] = l at *
    generalize copR (repL l) = q at *
    have hsl := shL_L l
    simp only [encR] at hc hsl ⊢
    simp (maxSteps := 2000000) -implicitDefEqProofs (disch := (refine id_ok ?_; first | assumption | omega | (simp only [go_sem, List.size_toArray, List.length_map, List.length_append, List.length_take, List.length_drop, List.length_cons, List.length_nil, mrLL_app, keyD_i, keyD_s, keyD_b, Nat.reduceAdd, Nat.reduceEqDiff, Nat.reduceLeDiff] <;> omega) | with_unfolding_all rfl | decide)) only [go_sem, Nat.reduceAdd, Nat.reduceSub, Nat.reduceMul, Nat.reduceLeDiff, Nat.reduceEqDiff, Nat.reduceBEq, reduceIte, reduceCtorEq, c_clients_Book_Last, k1, gp, hl1, Bk, app_get, app_set, app_get0, app_set0, Int.toNat_natCast, ht, hle, hsl, hc]
  · rw [decide_eq_false h1] at k1
    rw [if_neg (by omega)]
    simp (maxSteps := 2000000) -implicitDefEqProofs (disch := (refine id_ok ?_; first | assumption | omega | (simp only [go_sem, List.size_toArray, List.length_map, List.length_append, List.length_take, List.length_drop, List.length_cons, List.length_nil, mrLL_app, keyD_i, keyD_s, keyD_b, Nat.reduceAdd, Nat.reduceEqDiff, Nat.reduceLeDiff] <;> omega) | with_unfolding_all rfl | decide)) only [go_sem, Nat.reduceAdd, Nat.reduceSub, Nat.reduceMul, Nat.reduceLeDiff, Nat.reduceEqDiff, Nat.reduceBEq, reduceIte, reduceCtorEq, c_clients_Book_Last, k1, app_get, app_set, app_get0, app_set0]
    rfl
theorem mrL_Bk : ∀ b : List Ln, mrL (b.flatMap encL) = 0
  | [] => rfl
  | (n, none) :: b => by
    have ih := mrL_Bk b
    simp only [List.flatMap_cons, encL, encO, List.cons_append, List.nil_append, mrL, AV.mr, ow_mr, mrLL, ih]
    decide
  | (n, some r) :: b => by
    have ih := mrL_Bk b
    have h1 : mrLL (r.text.map encB) = 0 := mrLL_B
    have h2 : mrLL (r.label.map encE) = 0 := mrLL_E
    have h3 : mrLL (r.kids.map encK) = 0 := mrLL_K
    simp only [List.flatMap_cons, encL, encO, encR, List.cons_append, List.nil_append, mrL, AV.mr, h1, h2, h3, ih]
    decide
theorem mrB_Bk {b : List Ln} : mrB (Bk b) = 0 := by simp only [Bk, mrB, mrL_Bk]
/-- A note: its number, the book behind it. -/
def notB (b : List Ln) (c n : Int) (r : Rep) : Int × List Ln :=
  if verB b c n = 4 ∨ rigR r = false then (2, b)
  else if verB b c n = 1 ∨ verB b c n = 2 then (40, b)
  else if verB b c n = 3 then (41, b)
  else (0, b.set c.toNat (n, some (copR r)))
theorem verB_ok {b : List Ln} {c n : Int} (h : verB b c n ≠ 4) : 0 ≤ c ∧ c < 8 ∧ 1 ≤ n ∧ n ≤ 1048576 := by
  unfold verB at h
  split at h
  · assumption
  · exact absurd rfl h
theorem not_run {p : Nat} {b : List Ln} {c n : Int} {r : Rep} {h : AH} (hp : h[p]? = some (Bk b)) (hb : b.length = 8) (hs : ∀ l ∈ b, 0 ≤ l.1 ∧ l.1 ≤ 1048576) (ho : okR r) :
    run T 12 [.box p 0, .int .i64 c, .int .i64 n, .agg (encR r)] h = some (.int .i64 (notB b c n r).1, h.set p (Bk (notB b c n r).2)) := by
  have hlt : p < h.length := (List.getElem?_eq_some_iff.1 hp).1
  have hsame := set_same hp
  have gp : ∀ js : AH, (h ++ js)[p]? = some (Bk b) := fun js => by rw [List.getElem?_append_left hlt]; exact hp
  have sp : ∀ (js : AH) (X : Bx), (h ++ js).set p X = h.set p X ++ js := fun js X => List.set_append_left _ _ hlt
  have hl1 : ∀ x : Bx, (h ++ [x]).length = h.length + 1 := fun x => by simp
  have hv := fun js => ver_run (c := c) (n := n) (gp js) hb hs
  have hr := rigR_run ho.1 ho.2.1 ho.2.2
  have hc := copR_run ho
  have hvc := @verB_ok b c n
  have hvr : verB b c n = 4 ∨ verB b c n = 1 ∨ verB b c n = 2 ∨ verB b c n = 3 ∨ verB b c n = 0 := by
    unfold verB; split
    · split
      · split
        · simp
        · split
          · simp
          · split <;> simp
      · simp
    · simp
  rw [run_code T_12]
  unfold notB
  generalize verB b c n = v at *
  simp only [encR] at hr
  by_cases h4 : v = 4
  · subst h4
    rw [if_pos (.inl rfl)]
    simp only [hsame]
    simp (maxSteps := 2000000) -implicitDefEqProofs (disch := (refine id_ok ?_; first | assumption | omega | (simp only [go_sem, List.size_toArray, List.length_map, List.length_append, List.length_take, List.length_drop, List.length_cons, List.length_nil, mrLL_app, keyD_i, keyD_s, keyD_b, Nat.reduceAdd, Nat.reduceEqDiff, Nat.reduceLeDiff] <;> omega) | with_unfolding_all rfl | decide)) only [go_sem, Nat.reduceAdd, Nat.reduceSub, Nat.reduceMul, Nat.reduceLeDiff, Nat.reduceEqDiff, Nat.reduceBEq, reduceIte, reduceCtorEq, c_clients_Book_Note, hv, encR, show ((4 : Int) == 4) = true from rfl]
  · have e4 : (v == 4) = false := by simp [h4]
    cases hrr : rigR r with
    | false =>
      rw [hrr] at hr
      rw [if_pos (.inr rfl)]
      simp only [hsame]
      simp (maxSteps := 2000000) -implicitDefEqProofs (disch := (refine id_ok ?_; first | assumption | omega | (simp only [go_sem, List.size_toArray, List.length_map, List.length_append, List.length_take, List.length_drop, List.length_cons, List.length_nil, mrLL_app, keyD_i, keyD_s, keyD_b, Nat.reduceAdd, Nat.reduceEqDiff, Nat.reduceLeDiff] <;> omega) | with_unfolding_all rfl | decide)) only [go_sem, Nat.reduceAdd, Nat.reduceSub, Nat.reduceMul, Nat.reduceLeDiff, Nat.reduceEqDiff, Nat.reduceBEq, reduceIte, reduceCtorEq, c_clients_Book_Note, hv, encR, e4, app_get0, hr]
    | true =>
      rw [hrr] at hr
      rw [if_neg (by simp [h4])]
      by_cases h1 : v = 1
      · subst h1
        rw [if_pos (.inl rfl)]
        simp only [hsame]
        simp (maxSteps := 2000000) -implicitDefEqProofs (disch := (refine id_ok ?_; first | assumption | omega | (simp only [go_sem, List.size_toArray, List.length_map, List.length_append, List.length_take, List.length_drop, List.length_cons, List.length_nil, mrLL_app, keyD_i, keyD_s, keyD_b, Nat.reduceAdd, Nat.reduceEqDiff, Nat.reduceLeDiff] <;> omega) | with_unfolding_all rfl | decide)) only [go_sem, Nat.reduceAdd, Nat.reduceSub, Nat.reduceMul, Nat.reduceLeDiff, Nat.reduceEqDiff, Nat.reduceBEq, reduceIte, reduceCtorEq, c_clients_Book_Note, hv, encR, e4, app_get0, hr, show ((1 : Int) == 1) = true from rfl]
      · have e1 : (v == 1) = false := by simp [h1]
        by_cases h2 : v = 2
        · subst h2
          rw [if_pos (.inr rfl)]
          simp only [hsame]
          simp (maxSteps := 2000000) -implicitDefEqProofs (disch := (refine id_ok ?_; first | assumption | omega | (simp only [go_sem, List.size_toArray, List.length_map, List.length_append, List.length_take, List.length_drop, List.length_cons, List.length_nil, mrLL_app, keyD_i, keyD_s, keyD_b, Nat.reduceAdd, Nat.reduceEqDiff, Nat.reduceLeDiff] <;> omega) | with_unfolding_all rfl | decide)) only [go_sem, Nat.reduceAdd, Nat.reduceSub, Nat.reduceMul, Nat.reduceLeDiff, Nat.reduceEqDiff, Nat.reduceBEq, reduceIte, reduceCtorEq, c_clients_Book_Note, hv, encR, e4, app_get0, hr, e1, show ((2 : Int) == 2) = true from rfl]
        · have e2 : (v == 2) = false := by simp [h2]
          rw [if_neg (by omega)]
          by_cases h3 : v = 3
          · subst h3
            rw [if_pos rfl]
            simp only [hsame]
            simp (maxSteps := 2000000) -implicitDefEqProofs (disch := (refine id_ok ?_; first | assumption | omega | (simp only [go_sem, List.size_toArray, List.length_map, List.length_append, List.length_take, List.length_drop, List.length_cons, List.length_nil, mrLL_app, keyD_i, keyD_s, keyD_b, Nat.reduceAdd, Nat.reduceEqDiff, Nat.reduceLeDiff] <;> omega) | with_unfolding_all rfl | decide)) only [go_sem, Nat.reduceAdd, Nat.reduceSub, Nat.reduceMul, Nat.reduceLeDiff, Nat.reduceEqDiff, Nat.reduceBEq, reduceIte, reduceCtorEq, c_clients_Book_Note, hv, encR, e4, app_get0, hr, e1, e2, show ((3 : Int) == 3) = true from rfl]
          · have e3 : (v == 3) = false := by simp [h3]
            rw [if_neg h3]
            obtain ⟨hc0, hc8, hn1, hn2⟩ := hvc h4
            obtain ⟨k, rfl⟩ : ∃ k : Nat, c = k := ⟨c.toNat, by omega⟩
            have hk : k < b.length := by omega
            have hov := flat_ovl (b := b) (i := k) (n, some (copR r)) hk
            have hle : Nat.ble (k * 7 + 7) (b.flatMap encL).length = true := by rw [flat_len]; exact Nat.ble_eq_true_of_le (by omega)
            rw [Int.toNat_natCast]
            generalize copR r = q at *
            simp only [encL, encO, encR, ovl, List.cons_append, List.nil_append, List.length_cons, List.length_nil, List.append_assoc, Nat.zero_add, Nat.reduceAdd] at hov
            simp only [encR] at hc
            simp (maxSteps := 2000000) -implicitDefEqProofs (disch := (refine id_ok ?_; first | assumption | omega | (simp only [go_sem, List.size_toArray, List.length_map, List.length_append, List.length_take, List.length_drop, List.length_cons, List.length_nil, mrLL_app, keyD_i, keyD_s, keyD_b, Nat.reduceAdd, Nat.reduceEqDiff, Nat.reduceLeDiff] <;> omega) | with_unfolding_all rfl | decide)) only [go_sem, Nat.reduceAdd, Nat.reduceSub, Nat.reduceMul, Nat.reduceLeDiff, Nat.reduceEqDiff, Nat.reduceBEq, reduceIte, reduceCtorEq, c_clients_Book_Note, hv, encR, e4, app_get0, hr, e1, e2, e3, hc, gp, Bk, Int.toNat_natCast, hle, sp]
            rw [hov]
            exact gc_dropS rfl mrB_Bk
end Go.Proofs.YtjeigcnaalleiaaGreatDoor.L

/- Books: made, written, cloned. -/
set_option linter.all false
set_option maxRecDepth 100000
namespace Go.Proofs.YtjeigcnaalleiaaGreatDoor.L
open Go.Proofs.YtjeigcnaalleiaaGreatDoor.M Go.Proofs.YtjeigcnaalleiaaGreatDoor.F Go.Proofs

def newB : List Ln := List.replicate 8 (0, none)
theorem bnew_run {h : AH} : run T 8 [] h = some (.box h.length 0, h ++ [Bk newB]) := by
  rw [run_code T_8]
  simp (maxSteps := 2000000) -implicitDefEqProofs (disch := (refine id_ok ?_; first | assumption | omega | (simp only [go_sem, List.size_toArray, List.length_map, List.length_append, List.length_take, List.length_drop, List.length_cons, List.length_nil, mrLL_app, keyD_i, keyD_s, keyD_b, Nat.reduceAdd, Nat.reduceEqDiff, Nat.reduceLeDiff] <;> omega) | with_unfolding_all rfl | decide)) only [go_sem, Nat.reduceAdd, Nat.reduceSub, Nat.reduceMul, Nat.reduceLeDiff, Nat.reduceEqDiff, Nat.reduceBEq, reduceIte, reduceCtorEq, c_clients_New]
  rw [gc_keep (by simp only [AV.mr, mrL]; omega)]
  rfl
/-- Lines as they are handed on. -/
def shb (b : List Ln) : List Ln := b.map fun l => (l.1, some (repL l))
theorem shL_app : ∀ a b : List AV, shL (a ++ b) = shL a ++ shL b
  | [], b => rfl
  | x :: a, b => by simp only [List.cons_append, shL, shL_app a b]
theorem shL_Bk : ∀ b : List Ln, shL (b.flatMap encL) = (shb b).flatMap encL
  | [] => rfl
  | l :: b => by rw [List.flatMap_cons, shL_app, shL_L, shL_Bk b]; rfl
def enL1 (l : Ln) : List UInt8 := num l.1.toNat ++ (if 0 < l.1 then num (bytR (repL l)).length ++ bytR (repL l) else [])
def bxL (l : Ln) : Bx := .cells (encL (l.1, some (repL l)))
theorem onesL_R (r : Rep) : onesL (encR r) = true := rfl
set_option maxHeartbeats 4000000 in
theorem bput_loop {q : Nat} {b : List Ln} (hb : b.length = 8) (hs : ∀ l ∈ b, (0 ≤ l.1 ∧ l.1 ≤ 1048576) ∧ okR (repL l)) : ∀ (d i : Nat) (H : AH) (w : List UInt8), d + i = 8 → H[q]? = some (Pn w) → w.length + d * 3000 + 18 ≤ 100000000000 →
    den T (.loop l_clients_Book_Put_0) (s_clients_Book_Put_0 (.box q 0) (.agg ((shb b).flatMap encL)) (.int .i64 i)) H = some (.exit 0, x_clients_Book_Put_0, H.set q (Pn (w ++ (b.drop i).flatMap enL1)) ++ (b.drop i).map bxL) := by
  intro d
  induction d with
  | zero =>
    intro i H w hd hp hw
    have hd' : decide ((i : Int) < 8) = false := decide_eq_false (by omega)
    rw [List.drop_eq_nil_of_le (by omega), List.flatMap_nil, List.append_nil, set_same hp, List.map_nil, List.append_nil]
    rw [lp_round]
    simp -implicitDefEqProofs (disch := (refine id_ok ?_; first | assumption | omega | (simp only [go_sem, List.size_toArray, List.length_map, List.length_append, List.length_take, List.length_drop, List.length_cons, List.length_nil, mrLL_app, keyD_i, keyD_s, keyD_b, Nat.reduceAdd, Nat.reduceEqDiff, Nat.reduceLeDiff] <;> omega) | with_unfolding_all rfl | decide)) only [go_sem, Nat.reduceAdd, Nat.reduceSub, Nat.reduceMul, Nat.reduceLeDiff, Nat.reduceEqDiff, Nat.reduceBEq, reduceIte, reduceCtorEq, hd']
  | succ d ih =>
    intro i H w hd hp hw
    have hib : i < b.length := by omega
    have hd' : decide ((i : Int) < 8) = true := decide_eq_true (by omega)
    have hdr : b.drop i = b[i] :: b.drop (i + 1) := List.drop_eq_getElem_cons hib
    have hk : i < (shb b).length := by simp [shb]; omega
    have ht := flat_take (b := shb b) (i := i) hk
    have hle : Nat.ble (i * 7 + 7) ((shb b).flatMap encL).length = true := by rw [flat_len]; exact Nat.ble_eq_true_of_le (by simp [shb]; omega)
    have hge : (shb b)[i] = (b[i].1, some (repL b[i])) := by simp [shb]
    rw [hge] at ht
    have hcl := hs b[i] (by simp)
    rw [hdr]
    generalize b[i] = l at *
    obtain ⟨n, o⟩ := l
    simp only at hcl ht
    obtain ⟨⟨h1, h2⟩, ho⟩ := hcl
    obtain ⟨n, rfl⟩ : ∃ k : Nat, n = k := ⟨n.toNat, by omega⟩
    have hby := bytR_run ho
    have hbl := bytR_len (repL ((n : Int), o))
    have henc : encL ((n : Int), some (repL ((n : Int), o))) = .int .i64 (n : Int) :: encR (repL ((n : Int), o)) := rfl
    rw [henc] at ht
    have hlt : q < H.length := (List.getElem?_eq_some_iff.1 hp).1
    have hgp : ∀ x c : Bx, (H.set q x ++ [c])[q]? = some x := fun x c => by rw [List.getElem?_append_left (by simpa using hlt), List.getElem?_set_self hlt]
    have hne : ∀ X : Bx, (H ++ [X])[q]? = some (Pn w) := fun X => by rw [List.getElem?_append_left hlt]; exact hp
    have n1 := num_len (n := n) (by omega)
    have n2 := num_len (n := (bytR (repL ((n : Int), o))).length) (by omega)
    have t1 := fun X => pnum_run (n := n) (hne X) (by omega) (by omega)
    have t2 := fun X => ptext_run (p := q) (s := bytR (repL ((n : Int), o))) (l := w ++ num n) (h := H.set q (Pn (w ++ num n)) ++ [X]) (hgp _ _) (by simp only [List.length_append]; omega)
    simp only [List.set_append_left _ _ hlt] at t1
    have hsl : ∀ (x y c : Bx), (H.set q x ++ [c]).set q y = H.set q y ++ [c] := fun x y c => by rw [List.set_append_left _ _ (by simpa using hlt), List.set_set]
    simp only [hsl] at t2
    have gH : ∀ x c : Bx, (H.set q x ++ [c])[H.length]? = some c := fun x c => by rw [List.getElem?_append_right (by simp)]; simp
    have e7 : IntKind.i64.wrap ((i : Int) + 1) = ((i + 1 : Nat) : Int) := by rw [w64 (by omega) (by omega)]; rfl
    simp only [List.flatMap_cons, List.map_cons]
    have hbx : bxL ((n : Int), o) = .cells (.int .i64 (n : Int) :: encR (repL ((n : Int), o))) := rfl
    rw [hbx]
    have hen : enL1 ((n : Int), o) = num n ++ (if 0 < (n : Int) then num (bytR (repL ((n : Int), o))).length ++ bytR (repL ((n : Int), o)) else []) := by simp only [enL1, Int.toNat_natCast]
    rw [hen]
    generalize repL ((n : Int), o) = r at *
    simp only [encR] at ht hby ⊢
    by_cases h0 : 0 < (n : Int)
    · have e0 : decide ((n : Int) > 0) = true := decide_eq_true h0
      rw [if_pos h0]
      have ih' := ih (i + 1) (H.set q (Pn (w ++ num n ++ num (bytR r).length ++ bytR r)) ++ [.cells [.int .i64 (n : Int), .int .i64 r.e, .int .i64 r.n, .sl .sh (r.text.map encB), .str ⟨r.cat.toArray⟩, .sl .sh (r.label.map encE), .sl .sh (r.kids.map encK)]]) (w ++ num n ++ num (bytR r).length ++ bytR r) (by omega) (hgp _ _) (by simp only [List.length_append]; omega)
      rw [hsl] at ih'
      simp only [List.append_assoc] at ih' t1 t2
      rw [lp_round]
      simp (maxSteps := 2000000) -implicitDefEqProofs (disch := (refine id_ok ?_; first | assumption | omega | (simp only [go_sem, List.size_toArray, List.length_map, List.length_append, List.length_take, List.length_drop, List.length_cons, List.length_nil, mrLL_app, keyD_i, keyD_s, keyD_b, Nat.reduceAdd, Nat.reduceEqDiff, Nat.reduceLeDiff] <;> omega) | with_unfolding_all rfl | decide)) only [go_sem, Nat.reduceAdd, Nat.reduceSub, Nat.reduceMul, Nat.reduceLeDiff, Nat.reduceEqDiff, Nat.reduceBEq, reduceIte, reduceCtorEq, hd', Int.toNat_natCast, ht, hle, t1, t2, gH, e0, hby, e7]
      refine ih'.trans ?_
      simp [List.append_assoc]
    · have e0 : decide ((n : Int) > 0) = false := decide_eq_false h0
      rw [if_neg h0]
      have ih' := ih (i + 1) (H.set q (Pn (w ++ num n)) ++ [.cells [.int .i64 (n : Int), .int .i64 r.e, .int .i64 r.n, .sl .sh (r.text.map encB), .str ⟨r.cat.toArray⟩, .sl .sh (r.label.map encE), .sl .sh (r.kids.map encK)]]) (w ++ num n) (by omega) (hgp _ _) (by simp only [List.length_append]; omega)
      rw [hsl] at ih'
      simp only [List.append_assoc] at ih' t1
      rw [lp_round]
      simp (maxSteps := 2000000) -implicitDefEqProofs (disch := (refine id_ok ?_; first | assumption | omega | (simp only [go_sem, List.size_toArray, List.length_map, List.length_append, List.length_take, List.length_drop, List.length_cons, List.length_nil, mrLL_app, keyD_i, keyD_s, keyD_b, Nat.reduceAdd, Nat.reduceEqDiff, Nat.reduceLeDiff] <;> omega) | with_unfolding_all rfl | decide)) only [go_sem, Nat.reduceAdd, Nat.reduceSub, Nat.reduceMul, Nat.reduceLeDiff, Nat.reduceEqDiff, Nat.reduceBEq, reduceIte, reduceCtorEq, hd', Int.toNat_natCast, ht, hle, t1, gH, e0, e7]
      refine ih'.trans ?_
      simp [List.append_assoc]
theorem bput_run {p q : Nat} {b : List Ln} {w : List UInt8} {h : AH} (hp : h[p]? = some (Bk b)) (hq : h[q]? = some (Pn w)) (hb : b.length = 8) (hs : ∀ l ∈ b, (0 ≤ l.1 ∧ l.1 ≤ 1048576) ∧ okR (repL l)) (hw : w.length ≤ 10000000) :
    run T 34 [.box p 0, .box q 0] h = some (.tup [], h.set q (Pn (w ++ b.flatMap enL1))) := by
  have h1 := bput_loop hb hs 8 0 h w rfl hq (by omega)
  rw [List.drop_zero] at h1
  simp only [show ((0 : Nat) : Int) = 0 from rfl] at h1
  have hle : Nat.ble 56 (b.flatMap encL).length = true := by rw [flat_len, hb]; rfl
  have htk : (b.flatMap encL).take 56 = b.flatMap encL := List.take_of_length_le (by rw [flat_len]; omega)
  rw [run_code T_34]
  simp (maxSteps := 2000000) -implicitDefEqProofs (disch := (refine id_ok ?_; first | assumption | omega | (simp only [go_sem, List.size_toArray, List.length_map, List.length_append, List.length_take, List.length_drop, List.length_cons, List.length_nil, mrLL_app, keyD_i, keyD_s, keyD_b, Nat.reduceAdd, Nat.reduceEqDiff, Nat.reduceLeDiff] <;> omega) | with_unfolding_all rfl | decide)) only [go_sem, Nat.reduceAdd, Nat.reduceSub, Nat.reduceMul, Nat.reduceLeDiff, Nat.reduceEqDiff, Nat.reduceBEq, reduceIte, reduceCtorEq, c_clients_Book_Put, hp, Bk, hle, htk, List.drop_zero, shL_Bk, h1]
  exact gc_dropS rfl mrB_Pn
theorem byts_run {p : Nat} {b : List Ln} {h : AH} (hp : h[p]? = some (Bk b)) (hb : b.length = 8) (hs : ∀ l ∈ b, (0 ≤ l.1 ∧ l.1 ≤ 1048576) ∧ okR (repL l)) :
    run T 13 [.box p 0] h = some (.str ⟨(b.flatMap enL1).toArray⟩, h) := by
  have hlt : p < h.length := (List.getElem?_eq_some_iff.1 hp).1
  have h1 := bput_run (p := p) (q := h.length) (b := b) (w := []) (h := h ++ [Pn []]) (by rw [List.getElem?_append_left hlt]; exact hp) (by simp) hb hs (by simp)
  simp only [app_set0, List.set_cons_zero, List.nil_append] at h1
  have hfl : (b.flatMap enL1).length ≤ 100000 := by
    have := flatMap_len (f := enL1) (k := 3000) b (fun l hl => by
      have h2 := (hs l hl).1
      have n1 := num_len (n := l.1.toNat) (by omega)
      have hbl := bytR_len (repL l)
      have n2 := num_len (n := (bytR (repL l)).length) (by omega)
      unfold enL1
      split
      · simp only [List.length_append]; omega
      · simp only [List.length_append, List.length_nil]; omega)
    omega
  have h2 := pbytes_run (p := h.length) (l := b.flatMap enL1) (h := h ++ [Pn (b.flatMap enL1)]) (by simp) (by omega)
  rw [run_code T_13]
  simp (maxSteps := 2000000) -implicitDefEqProofs (disch := (refine id_ok ?_; first | assumption | omega | (simp only [go_sem, List.size_toArray, List.length_map, List.length_append, List.length_take, List.length_drop, List.length_cons, List.length_nil, mrLL_app, keyD_i, keyD_s, keyD_b, Nat.reduceAdd, Nat.reduceEqDiff, Nat.reduceLeDiff] <;> omega) | with_unfolding_all rfl | decide)) only [go_sem, Nat.reduceAdd, Nat.reduceSub, Nat.reduceMul, Nat.reduceLeDiff, Nat.reduceEqDiff, Nat.reduceBEq, reduceIte, reduceCtorEq, c_regencylaw17_bytes, show Bx.cells [ow []] = Pn [] from rfl, h1, h2]
/-! ### a clone -/
def cpL (l : Ln) : Ln := (l.1, some (copR (repL l)))
def clB (b : List Ln) (i : Nat) : List Ln := (b.take i).map cpL ++ (b.drop i).map fun l => (l.1, some (repL l))
theorem ovl_cons {X Y : List AV} {k : Nat} {a : AV} (h : X[k]? = some a) : ovl X (k + 1) Y = ovl X k (a :: Y) := by
  obtain ⟨hk, rfl⟩ := List.getElem?_eq_some_iff.1 h
  simp only [ovl, List.length_cons]
  rw [List.take_succ_eq_append_getElem hk, show k + 1 + Y.length = k + (Y.length + 1) by omega, List.append_assoc (X.take k), List.singleton_append]
theorem clB_len {b : List Ln} {i : Nat} (hi : i ≤ b.length) : (clB b i).length = b.length := by simp [clB]; omega
theorem clB_ix {b : List Ln} {i : Nat} (hi : i < b.length) : i - ((b.take i).map cpL).length = 0 := by simp; omega
theorem clB_set {b : List Ln} {i : Nat} (hi : i < b.length) : (clB b i).set i (cpL b[i]) = clB b (i + 1) := by
  unfold clB
  rw [List.set_append_right _ _ (by simp; omega), clB_ix hi, List.take_succ_eq_append_getElem hi, List.drop_eq_getElem_cons hi, List.map_cons, List.set_cons_zero, List.map_append, List.map_cons, List.map_nil, List.append_assoc, List.singleton_append]
theorem clB_get {b : List Ln} {i : Nat} (hi : i < b.length) : (clB b i)[i]? = some (b[i].1, some (repL b[i])) := by
  unfold clB
  rw [List.getElem?_append_right (by simp; omega), clB_ix hi, List.drop_eq_getElem_cons hi, List.map_cons]
  rfl
set_option maxHeartbeats 4000000 in
theorem clone_loop {h : AH} {b : List Ln} (hb : b.length = 8) (hs : ∀ l ∈ b, okR (repL l)) : ∀ (d i : Nat) (js : AH), d + i = 8 →
    den T (.loop l_clients_Book_Clone_0) (s_clients_Book_Clone_0 (.box h.length 0) (.agg ((shb b).flatMap encL)) (.int .i64 i)) (h ++ Bk (clB b i) :: js) = some (.exit 0, x_clients_Book_Clone_0 (.box h.length 0), h ++ Bk (b.map cpL) :: (js ++ (b.drop i).map bxL)) := by
  intro d
  induction d with
  | zero =>
    intro i js hd
    have hd' : decide ((i : Int) < 8) = false := decide_eq_false (by omega)
    have e : clB b i = b.map cpL := by unfold clB; rw [List.drop_eq_nil_of_le (by omega), List.take_of_length_le (by omega)]; simp
    rw [List.drop_eq_nil_of_le (by omega), e, List.map_nil, List.append_nil]
    rw [lp_round]
    simp -implicitDefEqProofs (disch := (refine id_ok ?_; first | assumption | omega | (simp only [go_sem, List.size_toArray, List.length_map, List.length_append, List.length_take, List.length_drop, List.length_cons, List.length_nil, mrLL_app, keyD_i, keyD_s, keyD_b, Nat.reduceAdd, Nat.reduceEqDiff, Nat.reduceLeDiff] <;> omega) | with_unfolding_all rfl | decide)) only [go_sem, Nat.reduceAdd, Nat.reduceSub, Nat.reduceMul, Nat.reduceLeDiff, Nat.reduceEqDiff, Nat.reduceBEq, reduceIte, reduceCtorEq, hd']
  | succ d ih =>
    intro i js hd
    have hib : i < b.length := by omega
    have hd' : decide ((i : Int) < 8) = true := decide_eq_true (by omega)
    have hk : i < (shb b).length := by simp [shb]; omega
    have ht := flat_take (b := shb b) (i := i) hk
    have hle : Nat.ble (i * 7 + 7) ((shb b).flatMap encL).length = true := by rw [flat_len]; exact Nat.ble_eq_true_of_le (by simp [shb]; omega)
    have hge : (shb b)[i] = (b[i].1, some (repL b[i])) := by simp [shb]
    rw [hge] at ht
    have hle2 : Nat.ble (i * 7 + 1 + 6) ((clB b i).flatMap encL).length = true := by rw [flat_len, clB_len (by omega)]; exact Nat.ble_eq_true_of_le (by omega)
    have hki : i < (clB b i).length := by rw [clB_len (by omega)]; omega
    have hg0 := flat_get (b := clB b i) (i := i) (k := 0) hki (by omega)
    have hcg := clB_get hib
    rw [List.getElem?_eq_getElem hki, Option.some.injEq] at hcg
    rw [hcg, Nat.add_zero, encL_0] at hg0
    have hov := flat_ovl (b := clB b i) (i := i) (cpL b[i]) hki
    rw [clB_set hib] at hov
    have hc := copR_run (hs b[i] (by simp))
    have hdr : b.drop i = b[i] :: b.drop (i + 1) := List.drop_eq_getElem_cons hib
    rw [hdr, List.map_cons]
    have ih' := ih (i + 1) (js ++ [bxL b[i]]) (by omega)
    have hbx : bxL b[i] = .cells (.int .i64 b[i].1 :: encR (repL b[i])) := rfl
    have hcp : encL (cpL b[i]) = .int .i64 b[i].1 :: encR (copR (repL b[i])) := rfl
    have henc : encL (b[i].1, some (repL b[i])) = .int .i64 b[i].1 :: encR (repL b[i]) := rfl
    rw [henc] at ht
    rw [hcp, ← ovl_cons hg0] at hov
    rw [hbx] at ih' ⊢
    generalize b[i] = l at *
    obtain ⟨n, o⟩ := l
    simp only at *
    generalize repL (n, o) = r at *
    generalize copR r = q at *
    have e7 : IntKind.i64.wrap ((i : Int) + 1) = ((i + 1 : Nat) : Int) := by rw [w64 (by omega) (by omega)]; rfl
    have hlJ : ∀ X : Bx, (h ++ X :: js).length = h.length + (1 + js.length) := fun X => by simp; omega
    have gJ : ∀ a c : Bx, (a :: (js ++ [c]))[1 + js.length]? = some c := fun a c => by rw [Nat.add_comm]; simp
    have sJ : ∀ a c x : Bx, (a :: (js ++ [c])).set (1 + js.length) x = a :: (js ++ [x]) := fun a c x => by rw [Nat.add_comm]; simp
    simp only [encR, List.append_assoc, List.singleton_append] at ih' hc ht hov ⊢
    simp only [ovl, List.cons_append, List.nil_append, List.length_cons, List.length_nil, List.append_assoc, Nat.zero_add, Nat.reduceAdd] at hov
    rw [lp_round]
    simp (maxSteps := 2000000) -implicitDefEqProofs (disch := (refine id_ok ?_; first | assumption | omega | (simp only [go_sem, List.size_toArray, List.length_map, List.length_append, List.length_take, List.length_drop, List.length_cons, List.length_nil, mrLL_app, keyD_i, keyD_s, keyD_b, Nat.reduceAdd, Nat.reduceEqDiff, Nat.reduceLeDiff] <;> omega) | with_unfolding_all rfl | decide)) only [go_sem, Nat.reduceAdd, Nat.reduceSub, Nat.reduceMul, Nat.reduceLeDiff, Nat.reduceEqDiff, Nat.reduceBEq, reduceIte, reduceCtorEq, hd', Int.toNat_natCast, ht, hle, hlJ, gJ, sJ, app_get, app_set, app_get0, app_set0, hc, Bk, hle2, e7]
    rw [hov]
    exact ih'
theorem ones_Bk : ∀ b : List Ln, onesL (b.flatMap encL) = true
  | [] => rfl
  | (n, none) :: b => by
    have ih := ones_Bk b
    rw [List.flatMap_cons]; exact ih
  | (n, some r) :: b => by
    have ih := ones_Bk b
    rw [List.flatMap_cons]; exact ih
theorem bclone_run {p : Nat} {b : List Ln} {h : AH} (hp : h[p]? = some (Bk b)) (hb : b.length = 8) (hs : ∀ l ∈ b, okR (repL l)) :
    run T 17 [.box p 0] h = some (.box h.length 0, h ++ Bk (b.map cpL) :: b.map bxL) := by
  have hlt : p < h.length := (List.getElem?_eq_some_iff.1 hp).1
  have gp : ∀ js : AH, (h ++ js)[p]? = some (Bk b) := fun js => by rw [List.getElem?_append_left hlt]; exact hp
  have h1 := clone_loop (h := h) hb hs 8 0 [] rfl
  have h0 : clB b 0 = shb b := rfl
  rw [List.drop_zero, h0] at h1
  simp only [show ((0 : Nat) : Int) = 0 from rfl, List.nil_append] at h1
  have hle : Nat.ble 56 (b.flatMap encL).length = true := by rw [flat_len, hb]; rfl
  have htk : (b.flatMap encL).take 56 = b.flatMap encL := List.take_of_length_le (by rw [flat_len]; omega)
  have hst : ∀ cs : List AV, cs.length = 56 → storeB 56 0 (.agg ((shb b).flatMap encL)) (some (.cells cs)) = some (.cells ((shb b).flatMap encL)) := by
    intro cs hcs
    have hlen : ((shb b).flatMap encL).length = 56 := by rw [flat_len]; simp [shb]; omega
    have h0 : Nat.ble (0 + 56) cs.length = true := by rw [hcs]; rfl
    rw [stB_some (v := .agg ((shb b).flatMap encL)) (N := 56) (off := 0) h0 hlen (ones_Bk _)]
    simp only [AV.cells, ovl, List.take_zero, List.nil_append, hlen, Nat.zero_add]
    rw [List.drop_eq_nil_of_le (by omega), List.append_nil]
  simp only [Bk] at h1
  rw [run_code T_17]
  simp (maxSteps := 2000000) -implicitDefEqProofs (disch := (refine id_ok ?_; first | assumption | omega | (simp only [go_sem, List.size_toArray, List.length_map, List.length_append, List.length_take, List.length_drop, List.length_cons, List.length_nil, mrLL_app, keyD_i, keyD_s, keyD_b, Nat.reduceAdd, Nat.reduceEqDiff, Nat.reduceLeDiff] <;> omega) | with_unfolding_all rfl | decide)) only [go_sem, Nat.reduceAdd, Nat.reduceSub, Nat.reduceMul, Nat.reduceLeDiff, Nat.reduceEqDiff, Nat.reduceBEq, reduceIte, reduceCtorEq, c_clients_Book_Clone, hp, gp, Bk, hle, htk, List.drop_zero, shL_Bk, app_get, app_set, app_get0, app_set0, hst, h1]
  rw [gc_keep (by simp only [AV.mr, mrL]; omega)]
end Go.Proofs.YtjeigcnaalleiaaGreatDoor.L
