/- The document's tape: numbers, texts, its end. -/
import Derived.Test.YtjeigcnaalleiaaGreatDoorL45
import Derived.Test.YtjeigcnaalleiaaGreatDoorL49
import Derived.Test.YtjeigcnaalleiaaGreatDoorL34
set_option linter.all false
set_option maxRecDepth 100000
namespace Go.Proofs.YtjeigcnaalleiaaGreatDoor.L
open Go.Proofs.YtjeigcnaalleiaaGreatDoor.M Go.Proofs.YtjeigcnaalleiaaGreatDoor.F Go.Proofs

/-- How many bytes of at least 128 stand ahead (at most n). -/
def ldF : Nat → List UInt8 → Nat
  | 0, _ => 0
  | _ + 1, [] => 0
  | n + 1, c :: r => if 128 ≤ c.toNat then ldF n r + 1 else 0
theorem ldF_le : ∀ (n : Nat) (l : List UInt8), ldF n l ≤ n ∧ ldF n l ≤ l.length
  | 0, l => by simp [ldF]
  | n + 1, [] => by simp [ldF]
  | n + 1, c :: r => by
    have := ldF_le n r
    simp only [ldF]
    split
    · simp; omega
    · simp
/-- The number that bytes spell, the lowest ahead. -/
def smN : List UInt8 → Nat
  | [] => 0
  | c :: r => c.toNat % 128 + 128 * smN r
theorem smN_lt : ∀ (l : List UInt8), smN l < 128 ^ l.length
  | [] => by simp [smN]
  | c :: r => by
    have := smN_lt r
    simp only [smN, List.length_cons, Nat.pow_succ]
    omega
theorem rdN_ld : ∀ (l : List UInt8) (acc i : Nat), i ≤ 9 →
    rdN acc i l = if ldF (10 - i) l = l.length ∧ ldF (10 - i) l < 10 - i then (0, 0, 11)
      else if 9 ≤ i + ldF (10 - i) l ∨ (0 < i + ldF (10 - i) l ∧ l[ldF (10 - i) l]? = some 0) then (0, 0, 10)
      else (acc + smN (l.take (ldF (10 - i) l + 1)) * 128 ^ i, i + ldF (10 - i) l + 1, 0)
  | [], acc, i, hi => by
    have h0 : ldF (10 - i) [] = 0 := by obtain ⟨k, hk⟩ : ∃ k, 10 - i = k + 1 := ⟨9 - i, by omega⟩; rw [hk]; rfl
    rw [h0, if_pos ⟨rfl, by omega⟩]; rfl
  | c :: r, acc, i, hi => by
    obtain ⟨k, hk⟩ : ∃ k, 10 - i = k + 1 := ⟨9 - i, by omega⟩
    have hcl := c.toNat_lt
    by_cases hc : 128 ≤ c.toNat
    · have hl : ldF (10 - i) (c :: r) = ldF k r + 1 := by rw [hk]; simp [ldF, hc]
      have hle := ldF_le k r
      rw [hl]
      by_cases h9 : i = 9
      · simp only [rdN]
        rw [if_pos h9, if_neg (by rintro ⟨q1, q2⟩; omega), if_pos (.inl (by omega))]
      · have ih := rdN_ld r (acc + (c.toNat - 128) * 128 ^ i) (i + 1) (by omega)
        rw [show 10 - (i + 1) = k by omega] at ih
        simp only [rdN]
        rw [if_neg h9, if_pos hc, ih]
        by_cases hA : ldF k r = r.length ∧ ldF k r < k
        · rw [if_pos hA, if_pos ⟨by simp; omega, by omega⟩]
        · have hA2 : ¬ (ldF k r + 1 = (c :: r).length ∧ ldF k r + 1 < 10 - i) := by rintro ⟨q1, q2⟩; rw [List.length_cons] at q1; exact hA ⟨by omega, by omega⟩
          rw [if_neg hA, if_neg hA2]
          have hg : (c :: r)[ldF k r + 1]? = r[ldF k r]? := by simp
          rw [hg]
          by_cases hB : 9 ≤ i + 1 + ldF k r ∨ (0 < i + 1 + ldF k r ∧ r[ldF k r]? = some 0)
          · have hB2 : 9 ≤ i + (ldF k r + 1) ∨ (0 < i + (ldF k r + 1) ∧ r[ldF k r]? = some 0) := by rcases hB with hB | hB; exact .inl (by omega); exact .inr ⟨by omega, hB.2⟩
            rw [if_pos hB, if_pos hB2]
          · have hB2 : ¬ (9 ≤ i + (ldF k r + 1) ∨ (0 < i + (ldF k r + 1) ∧ r[ldF k r]? = some 0)) := by intro q; apply hB; rcases q with q | q; exact .inl (by omega); exact .inr ⟨by omega, q.2⟩
            rw [if_neg hB, if_neg hB2]
            rw [List.take_succ_cons, smN]
            have e1 : c.toNat % 128 = c.toNat - 128 := by omega
            have e2 : smN (List.take (ldF k r + 1) r) * 128 ^ (i + 1) = 128 * smN (List.take (ldF k r + 1) r) * 128 ^ i := by rw [Nat.pow_succ, Nat.mul_comm (128 ^ i) 128, ← Nat.mul_assoc, Nat.mul_comm (smN _) 128]
            rw [e1, e2, Nat.add_mul, Nat.add_assoc]
            congr 2
            omega
    · have hl : ldF (10 - i) (c :: r) = 0 := by rw [hk]; simp [ldF, hc]
      rw [hl, if_neg (by rintro ⟨q1, q2⟩; simp at q1)]
      simp only [rdN]
      have hg : (c :: r)[0]? = some c := rfl
      rw [hg]
      by_cases h9 : i = 9
      · rw [if_pos h9, if_pos (.inl (by omega))]
      · rw [if_neg h9, if_neg hc]
        by_cases hz : c.toNat = 0 ∧ 0 < i
        · rw [if_pos hz, if_pos (.inr ⟨by omega, by rw [Option.some.injEq]; exact UInt8.toNat_inj.1 (by simpa using hz.1)⟩)]
        · rw [if_neg hz, if_neg (by
            rintro (q | ⟨q1, q2⟩)
            · omega
            · rw [Option.some.injEq] at q2
              exact hz ⟨by rw [q2]; rfl, by omega⟩)]
          have e1 : c.toNat % 128 = c.toNat := by omega
          simp only [List.take_succ_cons, List.take_zero, smN, Nat.mul_zero, Nat.add_zero, e1]

/-! ### the walk -/
def cdO (e : Option Int) : Int := e.getD 0
def Tr (s : TS) : Bx := .cells [.str ⟨s.1.toArray⟩, .int .i64 (cdO s.2)]
def okS0 (s : TS) : Prop := s.2 ≠ some 0
theorem ld_loop {t : Nat} {g : Int} {l : List UInt8} {e : Int} {h : AH} (ht : h[t]? = some (.cells [.str ⟨l.toArray⟩, .int .i64 e])) (hl : l.length ≤ 1000000000) : ∀ (d k : Nat), d + k = 10 → k ≤ l.length →
    den T (.loop l_regencyref03_Tape_Number_0) (s_regencyref03_Tape_Number_0 (.box t 0) (.int .i64 g) (.int .i64 k)) h = some (.exit 0, x_regencyref03_Tape_Number_0 (.box t 0) (.int .i64 g) (.int .i64 (k + ldF d (l.drop k) : Nat)), h) := by
  intro d
  induction d with
  | zero =>
    intro k hd hk
    have d2 : decide ((k : Int) < 10) = false := decide_eq_false (by omega)
    simp only [ldF, Nat.add_zero]
    by_cases h1 : k = l.length
    · have d1 : decide ((k : Int) < l.length) = false := decide_eq_false (by omega)
      rw [lp_round]
      simp -implicitDefEqProofs (disch := (refine id_ok ?_; first | assumption | omega | (simp only [go_sem, List.size_toArray, List.length_map, List.length_append, List.length_take, List.length_drop, List.length_cons, List.length_nil, mrLL_app, keyD_i, keyD_s, keyD_b, Nat.reduceAdd, Nat.reduceEqDiff, Nat.reduceLeDiff] <;> omega) | with_unfolding_all rfl | decide)) only [go_sem, Nat.reduceAdd, Nat.reduceSub, Nat.reduceMul, Nat.reduceLeDiff, Nat.reduceEqDiff, Nat.reduceBEq, reduceIte, reduceCtorEq, ht, d1]
    · have d1 : decide ((k : Int) < l.length) = true := decide_eq_true (by omega)
      rw [lp_round]
      simp -implicitDefEqProofs (disch := (refine id_ok ?_; first | assumption | omega | (simp only [go_sem, List.size_toArray, List.length_map, List.length_append, List.length_take, List.length_drop, List.length_cons, List.length_nil, mrLL_app, keyD_i, keyD_s, keyD_b, Nat.reduceAdd, Nat.reduceEqDiff, Nat.reduceLeDiff] <;> omega) | with_unfolding_all rfl | decide)) only [go_sem, Nat.reduceAdd, Nat.reduceSub, Nat.reduceMul, Nat.reduceLeDiff, Nat.reduceEqDiff, Nat.reduceBEq, reduceIte, reduceCtorEq, ht, d1, d2]
  | succ d ih =>
    intro k hd hk
    have d2 : decide ((k : Int) < 10) = true := decide_eq_true (by omega)
    by_cases h1 : k = l.length
    · have d1 : decide ((k : Int) < l.length) = false := decide_eq_false (by omega)
      rw [List.drop_eq_nil_of_le (by omega)]
      simp only [ldF, Nat.add_zero]
      rw [lp_round]
      simp -implicitDefEqProofs (disch := (refine id_ok ?_; first | assumption | omega | (simp only [go_sem, List.size_toArray, List.length_map, List.length_append, List.length_take, List.length_drop, List.length_cons, List.length_nil, mrLL_app, keyD_i, keyD_s, keyD_b, Nat.reduceAdd, Nat.reduceEqDiff, Nat.reduceLeDiff] <;> omega) | with_unfolding_all rfl | decide)) only [go_sem, Nat.reduceAdd, Nat.reduceSub, Nat.reduceMul, Nat.reduceLeDiff, Nat.reduceEqDiff, Nat.reduceBEq, reduceIte, reduceCtorEq, ht, d1]
    · have hkl : k < l.length := by omega
      have d1 : decide ((k : Int) < l.length) = true := decide_eq_true (by omega)
      have hge : l[(k : Int).toNat]? = some l[k] := by simp [hkl]
      have hdr : l.drop k = l[k] :: l.drop (k + 1) := List.drop_eq_getElem_cons hkl
      have e7 := inc64 (n := k) (by omega)
      rw [hdr]
      generalize l[k] = c at *
      simp only [ldF]
      by_cases hc : 128 ≤ c.toNat
      · have d3 : decide ((c.toNat : Int) ≥ 128) = true := decide_eq_true (by omega)
        rw [if_pos hc]
        have ih' := ih (k + 1) (by omega) (by omega)
        rw [show k + (ldF d (List.drop (k + 1) l) + 1) = k + 1 + ldF d (List.drop (k + 1) l) by omega]
        rw [lp_round]
        simp -implicitDefEqProofs (disch := (refine id_ok ?_; first | assumption | omega | (simp only [go_sem, List.size_toArray, List.length_map, List.length_append, List.length_take, List.length_drop, List.length_cons, List.length_nil, mrLL_app, keyD_i, keyD_s, keyD_b, Nat.reduceAdd, Nat.reduceEqDiff, Nat.reduceLeDiff] <;> omega) | with_unfolding_all rfl | decide)) only [go_sem, Nat.reduceAdd, Nat.reduceSub, Nat.reduceMul, Nat.reduceLeDiff, Nat.reduceEqDiff, Nat.reduceBEq, reduceIte, reduceCtorEq, ht, d1, d2, hge, d3, e7]
        exact ih'
      · have d3 : decide ((c.toNat : Int) ≥ 128) = false := decide_eq_false (by omega)
        rw [if_neg hc]
        rw [lp_round]
        simp -implicitDefEqProofs (disch := (refine id_ok ?_; first | assumption | omega | (simp only [go_sem, List.size_toArray, List.length_map, List.length_append, List.length_take, List.length_drop, List.length_cons, List.length_nil, mrLL_app, keyD_i, keyD_s, keyD_b, Nat.reduceAdd, Nat.reduceEqDiff, Nat.reduceLeDiff] <;> omega) | with_unfolding_all rfl | decide)) only [go_sem, Nat.reduceAdd, Nat.reduceSub, Nat.reduceMul, Nat.reduceLeDiff, Nat.reduceEqDiff, Nat.reduceBEq, reduceIte, reduceCtorEq, ht, d1, d2, hge, d3]
theorem hv_loop {t k : Nat} {g : Int} {l : List UInt8} {e : Int} {h : AH} (ht : h[t]? = some (.cells [.str ⟨l.toArray⟩, .int .i64 e])) (hk : k < l.length) (hk8 : k ≤ 8) : ∀ (j : Nat), j ≤ k + 1 →
    den T (.loop l_regencyref03_Tape_Number_1) (s_regencyref03_Tape_Number_1 (.box t 0) (.int .i64 g) (.int .i64 k) (.int .i64 (smN ((l.take (k + 1)).drop j) : Nat)) (.int .i64 ((j : Int) - 1))) h = some (.exit 2, x_regencyref03_Tape_Number_2 (.box t 0) (.int .i64 g) (.int .i64 k) (.int .i64 (smN (l.take (k + 1)) : Nat)), h) := by
  intro j
  induction j with
  | zero =>
    intro _
    have d1 : decide (((0 : Nat) : Int) - 1 ≥ 0) = false := by decide
    rw [List.drop_zero]
    rw [lp_round]
    simp -implicitDefEqProofs (disch := (refine id_ok ?_; first | assumption | omega | (simp only [go_sem, List.size_toArray, List.length_map, List.length_append, List.length_take, List.length_drop, List.length_cons, List.length_nil, mrLL_app, keyD_i, keyD_s, keyD_b, Nat.reduceAdd, Nat.reduceEqDiff, Nat.reduceLeDiff] <;> omega) | with_unfolding_all rfl | decide)) only [go_sem, Nat.reduceAdd, Nat.reduceSub, Nat.reduceMul, Nat.reduceLeDiff, Nat.reduceEqDiff, Nat.reduceBEq, reduceIte, reduceCtorEq, d1]
  | succ j ih =>
    intro hj
    have e0 : ((j + 1 : Nat) : Int) - 1 = (j : Int) := by omega
    have d1 : decide ((j : Int) ≥ 0) = true := decide_eq_true (by omega)
    have hjl : j < l.length := by omega
    have hge : l[(j : Int).toNat]? = some l[j] := by simp [hjl]
    have hjt : j < (l.take (k + 1)).length := by simp; omega
    have hdr : (l.take (k + 1)).drop j = l[j] :: (l.take (k + 1)).drop (j + 1) := by rw [List.drop_eq_getElem_cons hjt]; simp
    have hlt := smN_lt ((l.take (k + 1)).drop j)
    have hlen : ((l.take (k + 1)).drop j).length ≤ 9 := by simp; omega
    have h9 : smN ((l.take (k + 1)).drop j) < 9223372036854775808 := Nat.lt_of_lt_of_le hlt (by have := Nat.pow_le_pow_right (n := 128) (by omega) hlen; simpa using this)
    have ih' := ih (by omega)
    rw [hdr, smN] at h9 ih'
    generalize l[j] = c at *
    have hcl := c.toNat_lt
    generalize smN ((l.take (k + 1)).drop (j + 1)) = m at *
    have f1 : IntKind.i64.wrap (128 * (m : Int)) = ((128 * m : Nat) : Int) := by rw [w64 (by omega) (by omega)]; omega
    have f2 : IntKind.i64.wrap (c.toNat : Int) = (c.toNat : Int) := w64 (by omega) (by omega)
    have f3 : (c.toNat : Int).tmod 128 = ((c.toNat % 128 : Nat) : Int) := by rw [Int.tmod_eq_emod_of_nonneg (by omega)]; rfl
    have f4 : IntKind.i64.wrap (((128 * m : Nat) : Int) + ((c.toNat % 128 : Nat) : Int)) = ((c.toNat % 128 + 128 * m : Nat) : Int) := by rw [w64 (by omega) (by omega)]; omega
    have f5 : IntKind.i64.wrap ((j : Int) - 1) = (j : Int) - 1 := w64 (by omega) (by omega)
    rw [e0]
    rw [lp_round]
    simp -implicitDefEqProofs (disch := (refine id_ok ?_; first | assumption | omega | (simp only [go_sem, List.size_toArray, List.length_map, List.length_append, List.length_take, List.length_drop, List.length_cons, List.length_nil, mrLL_app, keyD_i, keyD_s, keyD_b, Nat.reduceAdd, Nat.reduceEqDiff, Nat.reduceLeDiff] <;> omega) | with_unfolding_all rfl | decide)) only [go_sem, Nat.reduceAdd, Nat.reduceSub, Nat.reduceMul, Nat.reduceLeDiff, Nat.reduceEqDiff, Nat.reduceBEq, reduceIte, reduceCtorEq, d1, ht, hge, f1, f2, f3, f4, f5]
    exact ih'
set_option maxHeartbeats 8000000 in
theorem rtn_run {t g : Nat} {s : TS} {h : AH} (ht : h[t]? = some (Tr s)) (hs : okS0 s) (hl : s.1.length ≤ 1000000000) :
    run T 43 [.box t 0, .int .i64 g] h = some (.int .i64 (tapN g s).1, h.set t (Tr (tapN g s).2)) := by
  have hsame := set_same ht
  obtain ⟨l, e⟩ := s
  simp only at hl
  cases e with
  | some c =>
    have hc : c ≠ 0 := fun q => hs (by rw [q])
    have d1 : (c != 0) = true := by simp [hc]
    simp only [tapN, Option.isSome_some, if_true]
    rw [hsame]
    simp only [Tr, cdO, Option.getD_some] at ht
    rw [run_code T_43]
    simp -implicitDefEqProofs (disch := (refine id_ok ?_; first | assumption | omega | (simp only [go_sem, List.size_toArray, List.length_map, List.length_append, List.length_take, List.length_drop, List.length_cons, List.length_nil, mrLL_app, keyD_i, keyD_s, keyD_b, Nat.reduceAdd, Nat.reduceEqDiff, Nat.reduceLeDiff] <;> omega) | with_unfolding_all rfl | decide)) only [go_sem, Nat.reduceAdd, Nat.reduceSub, Nat.reduceMul, Nat.reduceLeDiff, Nat.reduceEqDiff, Nat.reduceBEq, reduceIte, reduceCtorEq, c_regencyref03_Tape_Number, ht, d1]
    all_goals first | rfl | exact ⟨rfl, rfl⟩
  | none =>
    have hrd := rdN_ld l 0 0 (by omega)
    simp only [Tr, cdO, Option.getD_none] at ht
    have hld := ld_loop (g := g) ht hl 10 0 rfl (by omega)
    rw [List.drop_zero] at hld
    have hle := ldF_le 10 l
    simp only [Nat.sub_zero, Nat.zero_add, Nat.pow_zero, Nat.mul_one] at hrd hld
    simp only [show ((0 : Nat) : Int) = 0 from rfl] at hld
    simp only [tapN, Option.isSome_none, Bool.false_eq_true, if_false]
    generalize ldF 10 l = k at *
    rw [run_code T_43]
    by_cases hA : k = l.length ∧ k < 10
    · rw [if_pos hA] at hrd
      rw [hrd, if_pos (by simp)]
      have d1 : ((k : Int) == (l.length : Int)) = true := by simp; omega
      have d2 : decide ((k : Int) < 10) = true := decide_eq_true (by omega)
      by_cases h9 : k = 9
      · have d3 : ((k : Int) == 9) = true := by simp [h9]
        simp -implicitDefEqProofs (disch := (refine id_ok ?_; first | assumption | omega | (simp only [go_sem, List.size_toArray, List.length_map, List.length_append, List.length_take, List.length_drop, List.length_cons, List.length_nil, mrLL_app, keyD_i, keyD_s, keyD_b, Nat.reduceAdd, Nat.reduceEqDiff, Nat.reduceLeDiff] <;> omega) | with_unfolding_all rfl | decide)) only [go_sem, Nat.reduceAdd, Nat.reduceSub, Nat.reduceMul, Nat.reduceLeDiff, Nat.reduceEqDiff, Nat.reduceBEq, reduceIte, reduceCtorEq, c_regencyref03_Tape_Number, ht, hld, d1, d2, d3, Tr, cdO]
        all_goals first | rfl | exact ⟨rfl, rfl⟩
      · have d3 : ((k : Int) == 9) = false := by simp; omega
        simp -implicitDefEqProofs (disch := (refine id_ok ?_; first | assumption | omega | (simp only [go_sem, List.size_toArray, List.length_map, List.length_append, List.length_take, List.length_drop, List.length_cons, List.length_nil, mrLL_app, keyD_i, keyD_s, keyD_b, Nat.reduceAdd, Nat.reduceEqDiff, Nat.reduceLeDiff] <;> omega) | with_unfolding_all rfl | decide)) only [go_sem, Nat.reduceAdd, Nat.reduceSub, Nat.reduceMul, Nat.reduceLeDiff, Nat.reduceEqDiff, Nat.reduceBEq, reduceIte, reduceCtorEq, c_regencyref03_Tape_Number, ht, hld, d1, d2, d3, Tr, cdO]
        all_goals first | rfl | exact ⟨rfl, rfl⟩
    · rw [if_neg hA] at hrd
      have hA' : ((k : Int) == (l.length : Int)) = false ∨ (((k : Int) == (l.length : Int)) = true ∧ decide ((k : Int) < 10) = false) := by
        by_cases q : k = l.length
        · right; exact ⟨by simp [q], decide_eq_false (by omega)⟩
        · left; simp; omega
      by_cases h9 : 9 ≤ k
      · rw [if_pos (.inl h9)] at hrd
        rw [hrd, if_pos (by simp)]
        have d4 : decide ((k : Int) ≥ 9) = true := decide_eq_true (by omega)
        rcases hA' with d1 | ⟨d1, d2⟩
        · simp (maxSteps := 2000000) -implicitDefEqProofs (disch := (refine id_ok ?_; first | assumption | omega | (simp only [go_sem, List.size_toArray, List.length_map, List.length_append, List.length_take, List.length_drop, List.length_cons, List.length_nil, mrLL_app, keyD_i, keyD_s, keyD_b, Nat.reduceAdd, Nat.reduceEqDiff, Nat.reduceLeDiff] <;> omega) | with_unfolding_all rfl | decide)) only [go_sem, Nat.reduceAdd, Nat.reduceSub, Nat.reduceMul, Nat.reduceLeDiff, Nat.reduceEqDiff, Nat.reduceBEq, reduceIte, reduceCtorEq, c_regencyref03_Tape_Number, ht, hld, d1, d4, Tr, cdO]
          all_goals first | rfl | exact ⟨rfl, rfl⟩
        · simp (maxSteps := 2000000) -implicitDefEqProofs (disch := (refine id_ok ?_; first | assumption | omega | (simp only [go_sem, List.size_toArray, List.length_map, List.length_append, List.length_take, List.length_drop, List.length_cons, List.length_nil, mrLL_app, keyD_i, keyD_s, keyD_b, Nat.reduceAdd, Nat.reduceEqDiff, Nat.reduceLeDiff] <;> omega) | with_unfolding_all rfl | decide)) only [go_sem, Nat.reduceAdd, Nat.reduceSub, Nat.reduceMul, Nat.reduceLeDiff, Nat.reduceEqDiff, Nat.reduceBEq, reduceIte, reduceCtorEq, c_regencyref03_Tape_Number, ht, hld, d1, d2, d4, Tr, cdO]
          all_goals first | rfl | exact ⟨rfl, rfl⟩
      · have d4 : decide ((k : Int) ≥ 9) = false := decide_eq_false (by omega)
        have hkl : k < l.length := by omega
        have d1 : ((k : Int) == (l.length : Int)) = false := by simp; omega
        have hge : l[(k : Int).toNat]? = some l[k] := by simp [hkl]
        have hgk : l[k]? = some l[k] := by simp [hkl]
        have hhv := hv_loop (g := g) (k := k) ht hkl (by omega) (k + 1) (by omega)
        rw [List.drop_eq_nil_of_le (by simp; omega), smN] at hhv
        simp only [show ((k + 1 : Nat) : Int) - 1 = (k : Int) by omega, show ((0 : Nat) : Int) = 0 from rfl] at hhv
        rw [hgk] at hrd
        have hsm : smN (l.take (k + 1)) < 9223372036854775808 := by
          have h1 := smN_lt (l.take (k + 1))
          have hlen : (l.take (k + 1)).length ≤ 9 := by simp; omega
          exact Nat.lt_of_lt_of_le h1 (by have := Nat.pow_le_pow_right (n := 128) (by omega) hlen; simpa using this)
        have e7 := inc64 (n := k) (by omega)
        generalize l[k] = c at *
        generalize smN (l.take (k + 1)) = n at *
        have hfin : ((0 < k ∧ c = 0) ∧ rdN 0 0 l = (0, 0, 10)) ∨ (¬ (0 < k ∧ c = 0) ∧ rdN 0 0 l = (n, k + 1, 0)) := by
          by_cases q : 0 < k ∧ c = 0
          · left; refine ⟨q, ?_⟩; rw [hrd, if_pos (.inr ⟨q.1, by rw [q.2]⟩)]
          · right; refine ⟨q, ?_⟩; rw [hrd, if_neg (by rintro (r1 | r2); exact h9 r1; exact q ⟨r2.1, Option.some.inj r2.2⟩)]
        have hsl := slc_hi (s := l) (i := ((k + 1 : Nat) : Int)) (by omega) (by omega)
        rw [Int.toNat_natCast] at hsl
        rcases hfin with ⟨⟨q1, q2⟩, hr⟩ | ⟨hq, hr⟩
        · rw [hr, if_pos (by simp)]
          have d5 : decide ((k : Int) > 0) = true := decide_eq_true (by omega)
          have d6 : ((c.toNat : Int) == 0) = true := by rw [q2]; rfl
          simp (maxSteps := 2000000) -implicitDefEqProofs (disch := (refine id_ok ?_; first | assumption | omega | (simp only [go_sem, List.size_toArray, List.length_map, List.length_append, List.length_take, List.length_drop, List.length_cons, List.length_nil, mrLL_app, keyD_i, keyD_s, keyD_b, Nat.reduceAdd, Nat.reduceEqDiff, Nat.reduceLeDiff] <;> omega) | with_unfolding_all rfl | decide)) only [go_sem, Nat.reduceAdd, Nat.reduceSub, Nat.reduceMul, Nat.reduceLeDiff, Nat.reduceEqDiff, Nat.reduceBEq, reduceIte, reduceCtorEq, c_regencyref03_Tape_Number, ht, hld, d1, d4, d5, hge, d6, Tr, cdO]
          all_goals first | rfl | exact ⟨rfl, rfl⟩
        · rw [hr, if_neg (by simp)]
          have hk0 : decide ((k : Int) > 0) = false ∨ (decide ((k : Int) > 0) = true ∧ ((c.toNat : Int) == 0) = false) := by
            by_cases q : 0 < k
            · right
              refine ⟨decide_eq_true (by omega), ?_⟩
              rw [beq_eq_false_iff_ne]
              intro z
              exact hq ⟨q, UInt8.toNat_inj.1 (by simpa using (show c.toNat = 0 by omega))⟩
            · left; exact decide_eq_false (by omega)
          simp only
          by_cases hg : g < n
          · have d7 : decide ((n : Int) > g) = true := decide_eq_true (by omega)
            rw [if_pos hg]
            rcases hk0 with d5 | ⟨d5, d6⟩
            · simp (maxSteps := 2000000) -implicitDefEqProofs (disch := (refine id_ok ?_; first | assumption | omega | (simp only [go_sem, List.size_toArray, List.length_map, List.length_append, List.length_take, List.length_drop, List.length_cons, List.length_nil, mrLL_app, keyD_i, keyD_s, keyD_b, Nat.reduceAdd, Nat.reduceEqDiff, Nat.reduceLeDiff] <;> omega) | with_unfolding_all rfl | decide)) only [go_sem, Nat.reduceAdd, Nat.reduceSub, Nat.reduceMul, Nat.reduceLeDiff, Nat.reduceEqDiff, Nat.reduceBEq, reduceIte, reduceCtorEq, c_regencyref03_Tape_Number, ht, hld, d1, d4, d5, hhv, d7, Tr, cdO]
              all_goals first | rfl | exact ⟨rfl, rfl⟩
            · simp (maxSteps := 2000000) -implicitDefEqProofs (disch := (refine id_ok ?_; first | assumption | omega | (simp only [go_sem, List.size_toArray, List.length_map, List.length_append, List.length_take, List.length_drop, List.length_cons, List.length_nil, mrLL_app, keyD_i, keyD_s, keyD_b, Nat.reduceAdd, Nat.reduceEqDiff, Nat.reduceLeDiff] <;> omega) | with_unfolding_all rfl | decide)) only [go_sem, Nat.reduceAdd, Nat.reduceSub, Nat.reduceMul, Nat.reduceLeDiff, Nat.reduceEqDiff, Nat.reduceBEq, reduceIte, reduceCtorEq, c_regencyref03_Tape_Number, ht, hld, d1, d4, d5, hge, d6, hhv, d7, Tr, cdO]
              all_goals first | rfl | exact ⟨rfl, rfl⟩
          · have d7 : decide ((n : Int) > g) = false := decide_eq_false (by omega)
            rw [if_neg hg]
            rcases hk0 with d5 | ⟨d5, d6⟩
            · simp (maxSteps := 2000000) -implicitDefEqProofs (disch := (refine id_ok ?_; first | assumption | omega | (simp only [go_sem, List.size_toArray, List.length_map, List.length_append, List.length_take, List.length_drop, List.length_cons, List.length_nil, mrLL_app, keyD_i, keyD_s, keyD_b, Nat.reduceAdd, Nat.reduceEqDiff, Nat.reduceLeDiff] <;> omega) | with_unfolding_all rfl | decide)) only [go_sem, Nat.reduceAdd, Nat.reduceSub, Nat.reduceMul, Nat.reduceLeDiff, Nat.reduceEqDiff, Nat.reduceBEq, reduceIte, reduceCtorEq, c_regencyref03_Tape_Number, ht, hld, d1, d4, d5, hhv, d7, e7, hsl, Tr, cdO]
              all_goals first | rfl | exact ⟨rfl, rfl⟩
            · simp (maxSteps := 2000000) -implicitDefEqProofs (disch := (refine id_ok ?_; first | assumption | omega | (simp only [go_sem, List.size_toArray, List.length_map, List.length_append, List.length_take, List.length_drop, List.length_cons, List.length_nil, mrLL_app, keyD_i, keyD_s, keyD_b, Nat.reduceAdd, Nat.reduceEqDiff, Nat.reduceLeDiff] <;> omega) | with_unfolding_all rfl | decide)) only [go_sem, Nat.reduceAdd, Nat.reduceSub, Nat.reduceMul, Nat.reduceLeDiff, Nat.reduceEqDiff, Nat.reduceBEq, reduceIte, reduceCtorEq, c_regencyref03_Tape_Number, ht, hld, d1, d4, d5, hge, d6, hhv, d7, e7, hsl, Tr, cdO]
              all_goals first | rfl | exact ⟨rfl, rfl⟩
theorem tapN_ok {g : Nat} {s : TS} (hs : okS0 s) : okS0 (tapN g s).2 := by
  unfold tapN
  split
  · exact hs
  · split
    · rename_i h1 h2
      intro q
      simp only [Option.some.injEq] at q
      omega
    · split
      · intro q; simp at q
      · intro q; cases q
theorem tapT_ok {g : Nat} {s : TS} (hs : okS0 s) : okS0 (tapT g s).2 := by
  unfold tapT
  split
  · exact hs
  · split
    · exact tapN_ok hs
    · split
      · intro q; simp at q
      · intro q; cases q
set_option maxHeartbeats 4000000 in
theorem rtt_run {t g : Nat} {s : TS} {h : AH} (ht : h[t]? = some (Tr s)) (hs : okS0 s) (hl : s.1.length ≤ 1000000000) :
    run T 45 [.box t 0, .int .i64 g] h = some (.str ⟨(tapT g s).1.toArray⟩, h.set t (Tr (tapT g s).2)) := by
  have hlt : t < h.length := (List.getElem?_eq_some_iff.1 ht).1
  have h1 := rtn_run (g := g) ht hs hl
  have hln := tapN_len g s
  have ho := tapN_ok (g := g) hs
  obtain ⟨l, e⟩ := s
  simp only at hl hln
  cases e with
  | some c =>
    have hc : c ≠ 0 := fun q => hs (by rw [q])
    have d1 : (c != 0) = true := by simp [hc]
    have hsame := set_same ht
    simp only [tapN, Option.isSome_some, if_true] at h1
    rw [hsame] at h1
    simp only [tapT, Option.isSome_some, if_true]
    rw [hsame]
    simp only [Tr, cdO, Option.getD_some] at ht
    rw [run_code T_45]
    simp -implicitDefEqProofs (disch := (refine id_ok ?_; first | assumption | omega | (simp only [go_sem, List.size_toArray, List.length_map, List.length_append, List.length_take, List.length_drop, List.length_cons, List.length_nil, mrLL_app, keyD_i, keyD_s, keyD_b, Nat.reduceAdd, Nat.reduceEqDiff, Nat.reduceLeDiff] <;> omega) | with_unfolding_all rfl | decide)) only [go_sem, Nat.reduceAdd, Nat.reduceSub, Nat.reduceMul, Nat.reduceLeDiff, Nat.reduceEqDiff, Nat.reduceBEq, reduceIte, reduceCtorEq, c_regencyref03_Tape_Text, ht, h1, d1]
    all_goals first | rfl | exact ⟨rfl, rfl⟩
  | none =>
    simp only [tapT, Option.isSome_none, Bool.false_eq_true, if_false]
    simp only [Tr, cdO, Option.getD_none] at ht
    generalize tapN g (l, none) = x at *
    obtain ⟨n, l2, e2⟩ := x
    simp only at h1 hln ho ⊢
    rw [run_code T_45]
    cases e2 with
    | some c =>
      have hc : c ≠ 0 := fun q => ho (by rw [q])
      have d1 : (c != 0) = true := by simp [hc]
      simp only [Option.isSome_some, if_true]
      simp only [Tr, cdO, Option.getD_some] at h1
      simp -implicitDefEqProofs (disch := (refine id_ok ?_; first | assumption | omega | (simp only [go_sem, List.size_toArray, List.length_map, List.length_append, List.length_take, List.length_drop, List.length_cons, List.length_nil, mrLL_app, keyD_i, keyD_s, keyD_b, Nat.reduceAdd, Nat.reduceEqDiff, Nat.reduceLeDiff] <;> omega) | with_unfolding_all rfl | decide)) only [go_sem, Nat.reduceAdd, Nat.reduceSub, Nat.reduceMul, Nat.reduceLeDiff, Nat.reduceEqDiff, Nat.reduceBEq, reduceIte, reduceCtorEq, c_regencyref03_Tape_Text, ht, h1, d1, Tr, cdO]
      all_goals first | rfl | exact ⟨rfl, rfl⟩
    | none =>
      simp only [Option.isSome_none, Bool.false_eq_true, if_false]
      simp only [Tr, cdO, Option.getD_none] at h1
      by_cases hn : l2.length < n
      · have d2 : decide ((n : Int) > (l2.length : Int)) = true := decide_eq_true (by omega)
        rw [if_pos hn]
        simp -implicitDefEqProofs (disch := (refine id_ok ?_; first | assumption | omega | (simp only [go_sem, List.size_toArray, List.length_map, List.length_append, List.length_take, List.length_drop, List.length_cons, List.length_nil, mrLL_app, keyD_i, keyD_s, keyD_b, Nat.reduceAdd, Nat.reduceEqDiff, Nat.reduceLeDiff] <;> omega) | with_unfolding_all rfl | decide)) only [go_sem, Nat.reduceAdd, Nat.reduceSub, Nat.reduceMul, Nat.reduceLeDiff, Nat.reduceEqDiff, Nat.reduceBEq, reduceIte, reduceCtorEq, c_regencyref03_Tape_Text, ht, h1, d2, Tr, cdO]
        all_goals first | rfl | exact ⟨rfl, rfl⟩
      · have d2 : decide ((n : Int) > (l2.length : Int)) = false := decide_eq_false (by omega)
        have s1 := slc_lo (s := l2) (i := (n : Int)) (by omega) (by omega)
        have s2 := slc_hi (s := l2) (i := (n : Int)) (by omega) (by omega)
        rw [Int.toNat_natCast] at s1 s2
        rw [if_neg hn]
        simp -implicitDefEqProofs (disch := (refine id_ok ?_; first | assumption | omega | (simp only [go_sem, List.size_toArray, List.length_map, List.length_append, List.length_take, List.length_drop, List.length_cons, List.length_nil, mrLL_app, keyD_i, keyD_s, keyD_b, Nat.reduceAdd, Nat.reduceEqDiff, Nat.reduceLeDiff] <;> omega) | with_unfolding_all rfl | decide)) only [go_sem, Nat.reduceAdd, Nat.reduceSub, Nat.reduceMul, Nat.reduceLeDiff, Nat.reduceEqDiff, Nat.reduceBEq, reduceIte, reduceCtorEq, c_regencyref03_Tape_Text, ht, h1, d2, s1, s2, Tr, cdO]
        all_goals first | rfl | exact ⟨rfl, rfl⟩
theorem rte_run {t : Nat} {s : TS} {h : AH} (ht : h[t]? = some (Tr s)) (hs : okS0 s) : run T 74 [.box t 0] h = some (.int .i64 (cdO (tapE s)), h) := by
  obtain ⟨l, e⟩ := s
  rw [run_code T_74]
  cases e with
  | some c =>
    have hc : c ≠ 0 := fun q => hs (by rw [q])
    have d1 : (c == 0) = false := by simp [hc]
    simp only [Tr, cdO, Option.getD_some] at ht
    simp -implicitDefEqProofs (disch := (refine id_ok ?_; first | assumption | omega | (simp only [go_sem, List.size_toArray, List.length_map, List.length_append, List.length_take, List.length_drop, List.length_cons, List.length_nil, mrLL_app, keyD_i, keyD_s, keyD_b, Nat.reduceAdd, Nat.reduceEqDiff, Nat.reduceLeDiff] <;> omega) | with_unfolding_all rfl | decide)) only [go_sem, Nat.reduceAdd, Nat.reduceSub, Nat.reduceMul, Nat.reduceLeDiff, Nat.reduceEqDiff, Nat.reduceBEq, reduceIte, reduceCtorEq, c_regencyref03_Tape_End, ht, d1]
    all_goals first | rfl | exact ⟨rfl, rfl⟩
  | none =>
    simp only [Tr, cdO, Option.getD_none] at ht
    cases l with
    | nil =>
      have d2 : (!(([] : List UInt8) == [])) = false := rfl
      simp -implicitDefEqProofs (disch := (refine id_ok ?_; first | assumption | omega | (simp only [go_sem, List.size_toArray, List.length_map, List.length_append, List.length_take, List.length_drop, List.length_cons, List.length_nil, mrLL_app, keyD_i, keyD_s, keyD_b, Nat.reduceAdd, Nat.reduceEqDiff, Nat.reduceLeDiff] <;> omega) | with_unfolding_all rfl | decide)) only [go_sem, Nat.reduceAdd, Nat.reduceSub, Nat.reduceMul, Nat.reduceLeDiff, Nat.reduceEqDiff, Nat.reduceBEq, reduceIte, reduceCtorEq, c_regencyref03_Tape_End, ht, d2]
      all_goals first | rfl | exact ⟨rfl, rfl⟩
    | cons c l =>
      have d2 : (!(c :: l == ([] : List UInt8))) = true := rfl
      simp -implicitDefEqProofs (disch := (refine id_ok ?_; first | assumption | omega | (simp only [go_sem, List.size_toArray, List.length_map, List.length_append, List.length_take, List.length_drop, List.length_cons, List.length_nil, mrLL_app, keyD_i, keyD_s, keyD_b, Nat.reduceAdd, Nat.reduceEqDiff, Nat.reduceLeDiff] <;> omega) | with_unfolding_all rfl | decide)) only [go_sem, Nat.reduceAdd, Nat.reduceSub, Nat.reduceMul, Nat.reduceLeDiff, Nat.reduceEqDiff, Nat.reduceBEq, reduceIte, reduceCtorEq, c_regencyref03_Tape_End, ht, d2]
      all_goals first | rfl | exact ⟨rfl, rfl⟩
end Go.Proofs.YtjeigcnaalleiaaGreatDoor.L

/- The document's labels and replies: how they are read. -/
set_option linter.all false
set_option maxRecDepth 100000
namespace Go.Proofs.YtjeigcnaalleiaaGreatDoor.L
open Go.Proofs.YtjeigcnaalleiaaGreatDoor.M Go.Proofs.YtjeigcnaalleiaaGreatDoor.F Go.Proofs

theorem getEs_ok : ∀ (k : Nat) {s : TS}, okS0 s → okS0 (getEs k s).2
  | 0, _, h => h
  | k + 1, _, h => getEs_ok k (tapN_ok (tapT_ok h))
theorem getL_ok {s : TS} (h : okS0 s) : okS0 (getL s).2.2 := by
  unfold getL
  dsimp only
  split
  · exact getEs_ok _ (tapN_ok h)
  · exact getEs_ok _ (tapN_ok h)
theorem getK_ok : ∀ (k : Nat) {s : TS}, okS0 s → okS0 (getK k s).2
  | 0, _, h => h
  | k + 1, _, h => getK_ok k (tapN_ok (tapN_ok (tapN_ok h)))
theorem rgl_loop {t n : Nat} (hn : n ≤ 1000) : ∀ (d i : Nat) (H : AH) (s : TS) (a : List Ent), d + i = n → H[t]? = some (Tr s) → okS0 s → s.1.length ≤ 1000000000 → a.length ≤ i →
    den T (.loop l_regencyref06_Get_0) (s_regencyref06_Get_0 (.box t 0) (ow (a.map encE)) (.int .i64 n) (.int .i64 i)) H = some (.exit 0, x_regencyref06_Get_0 (.box t 0) (ow ((a ++ (getEs d s).1).map encE)), H.set t (Tr (getEs d s).2)) := by
  intro d
  induction d with
  | zero =>
    intro i H s a hd ht ho hs ha
    have hd' : decide ((i : Int) < n) = false := decide_eq_false (by omega)
    simp only [getEs, List.append_nil]
    rw [set_same ht]
    rw [lp_round]
    simp -implicitDefEqProofs (disch := (refine id_ok ?_; first | assumption | omega | (simp only [go_sem, List.size_toArray, List.length_map, List.length_append, List.length_take, List.length_drop, List.length_cons, List.length_nil, mrLL_app, keyD_i, keyD_s, keyD_b, Nat.reduceAdd, Nat.reduceEqDiff, Nat.reduceLeDiff] <;> omega) | with_unfolding_all rfl | decide)) only [go_sem, Nat.reduceAdd, Nat.reduceSub, Nat.reduceMul, Nat.reduceLeDiff, Nat.reduceEqDiff, Nat.reduceBEq, reduceIte, reduceCtorEq, hd']
  | succ d ih =>
    intro i H s a hd ht ho hs ha
    have hlt : t < H.length := (List.getElem?_eq_some_iff.1 ht).1
    have hd' : decide ((i : Int) < n) = true := decide_eq_true (by omega)
    have t1 := rtt_run (g := 80) ht ho hs
    rw [show ((80 : Nat) : Int) = 80 from rfl] at t1
    have l1 := tapT_len 80 s
    have o1 := tapT_ok (g := 80) ho
    have t2 := rtn_run (t := t) (g := 3) (s := (tapT 80 s).2) (h := H.set t (Tr (tapT 80 s).2)) (List.getElem?_set_self hlt) o1 (by omega)
    rw [List.set_set] at t2
    rw [show ((3 : Nat) : Int) = 3 from rfl] at t2
    have l2 := tapN_len 3 (tapT 80 s).2
    have o2 := tapN_ok (g := 3) o1
    have e7 := inc64 (n := i) (by omega)
    have ih' := ih (i + 1) (H.set t (Tr (tapN 3 (tapT 80 s).2).2)) (tapN 3 (tapT 80 s).2).2 (a ++ [((tapT 80 s).1, ((tapN 3 (tapT 80 s).2).1 : Int))]) (by omega) (List.getElem?_set_self hlt) o2 (by omega) (by simp; omega)
    rw [List.set_set] at ih'
    simp only [getEs]
    simp only [List.map_append, List.map_cons, List.map_nil, encE, List.append_assoc, List.singleton_append] at ih' ⊢
    generalize tapT 80 s = x at *
    generalize tapN 3 x.2 = y at *
    rw [lp_round]
    simp -implicitDefEqProofs (disch := (refine id_ok ?_; first | assumption | omega | (simp only [go_sem, List.size_toArray, List.length_map, List.length_append, List.length_take, List.length_drop, List.length_cons, List.length_nil, mrLL_app, keyD_i, keyD_s, keyD_b, Nat.reduceAdd, Nat.reduceEqDiff, Nat.reduceLeDiff] <;> omega) | with_unfolding_all rfl | decide)) only [go_sem, Nat.reduceAdd, Nat.reduceSub, Nat.reduceMul, Nat.reduceLeDiff, Nat.reduceEqDiff, Nat.reduceBEq, reduceIte, reduceCtorEq, hd', t1, t2, e7]
    exact ih'
theorem rgl_run {t : Nat} {s : TS} {h : AH} (ht : h[t]? = some (Tr s)) (ho : okS0 s) (hs : s.1.length ≤ 1000000000) :
    run T 73 [.box t 0] h = some (.tup [ow ((getL s).1.map encE), .int .i64 (getL s).2.1], h.set t (Tr (getL s).2.2)) := by
  have hlt : t < h.length := (List.getElem?_eq_some_iff.1 ht).1
  have t1 := rtn_run (g := 8) ht ho hs
  rw [show ((8 : Nat) : Int) = 8 from rfl] at t1
  have l1 := tapN_len 8 s
  have l2 := tapN_le 8 s
  have o1 := tapN_ok (g := 8) ho
  have hlp := rgl_loop (t := t) (n := (tapN 8 s).1) (by omega) (tapN 8 s).1 0 (h.set t (Tr (tapN 8 s).2)) (tapN 8 s).2 [] (by omega) (List.getElem?_set_self hlt) o1 (by omega) (by simp)
  rw [List.set_set, List.nil_append] at hlp
  simp only [show ((0 : Nat) : Int) = 0 from rfl, List.map_nil] at hlp
  have hst := getEs_str (tapN 8 s).1 (tapN 8 s).2
  have o2 := getEs_ok (tapN 8 s).1 o1
  unfold getL
  generalize tapN 8 s = x at *
  generalize getEs x.1 x.2 = q at *
  obtain ⟨a, b, e⟩ := q
  have t3 := rrig_run (l := a) (h := []) (fun e he => by have := hst e he; omega)
  have gt : (h.set t (Tr (b, e)))[t]? = some (Tr (b, e)) := List.getElem?_set_self hlt
  rw [run_code T_73]
  simp only at hlp t3 o2 ⊢
  cases e with
  | some c =>
    have hc : c ≠ 0 := fun q => o2 (by rw [q])
    have d1 : (c != 0) = true := by simp [hc]
    simp only [Option.isSome_some, Bool.true_eq_false, false_and, if_false, List.map_nil]
    have gt' : (h.set t (Tr (b, some c)))[t]? = some (.cells [.str ⟨b.toArray⟩, .int .i64 c]) := gt
    simp -implicitDefEqProofs (disch := (refine id_ok ?_; first | assumption | omega | (simp only [go_sem, List.size_toArray, List.length_map, List.length_append, List.length_take, List.length_drop, List.length_cons, List.length_nil, mrLL_app, keyD_i, keyD_s, keyD_b, Nat.reduceAdd, Nat.reduceEqDiff, Nat.reduceLeDiff] <;> omega) | with_unfolding_all rfl | decide)) only [go_sem, Nat.reduceAdd, Nat.reduceSub, Nat.reduceMul, Nat.reduceLeDiff, Nat.reduceEqDiff, Nat.reduceBEq, reduceIte, reduceCtorEq, c_regencyref06_Get, t1, hlp, gt', d1]
  | none =>
    simp only [Option.isSome_none, true_and]
    have gt' : (h.set t (Tr (b, none)))[t]? = some (.cells [.str ⟨b.toArray⟩, .int .i64 0]) := gt
    cases hr : rigL a with
    | true =>
      rw [hr] at t3
      simp only [if_true]
      simp -implicitDefEqProofs (disch := (refine id_ok ?_; first | assumption | omega | (simp only [go_sem, List.size_toArray, List.length_map, List.length_append, List.length_take, List.length_drop, List.length_cons, List.length_nil, mrLL_app, keyD_i, keyD_s, keyD_b, Nat.reduceAdd, Nat.reduceEqDiff, Nat.reduceLeDiff] <;> omega) | with_unfolding_all rfl | decide)) only [go_sem, Nat.reduceAdd, Nat.reduceSub, Nat.reduceMul, Nat.reduceLeDiff, Nat.reduceEqDiff, Nat.reduceBEq, reduceIte, reduceCtorEq, c_regencyref06_Get, t1, hlp, gt', t3]
    | false =>
      rw [hr] at t3
      simp only [Bool.false_eq_true, if_false, List.map_nil]
      simp -implicitDefEqProofs (disch := (refine id_ok ?_; first | assumption | omega | (simp only [go_sem, List.size_toArray, List.length_map, List.length_append, List.length_take, List.length_drop, List.length_cons, List.length_nil, mrLL_app, keyD_i, keyD_s, keyD_b, Nat.reduceAdd, Nat.reduceEqDiff, Nat.reduceLeDiff] <;> omega) | with_unfolding_all rfl | decide)) only [go_sem, Nat.reduceAdd, Nat.reduceSub, Nat.reduceMul, Nat.reduceLeDiff, Nat.reduceEqDiff, Nat.reduceBEq, reduceIte, reduceCtorEq, c_regencyref06_Get, t1, hlp, gt', t3]
/-! ### a tape that is the second box -/
theorem rtn_at {g : Nat} {Z : Bx} {js : AH} {s : TS} (ho : okS0 s) (hs : s.1.length ≤ 1000000000) : run T 43 [.box 1 0, .int .i64 g] (Z :: Tr s :: js) = some (.int .i64 (tapN g s).1, Z :: Tr (tapN g s).2 :: js) :=
  rtn_run (t := 1) (h := Z :: Tr s :: js) rfl ho hs
theorem rtt_at {g : Nat} {Z : Bx} {js : AH} {s : TS} (ho : okS0 s) (hs : s.1.length ≤ 1000000000) : run T 45 [.box 1 0, .int .i64 g] (Z :: Tr s :: js) = some (.str ⟨(tapT g s).1.toArray⟩, Z :: Tr (tapT g s).2 :: js) :=
  rtt_run (t := 1) (h := Z :: Tr s :: js) rfl ho hs
theorem rgl_at {Z : Bx} {js : AH} {s : TS} (ho : okS0 s) (hs : s.1.length ≤ 1000000000) : run T 73 [.box 1 0] (Z :: Tr s :: js) = some (.tup [ow ((getL s).1.map encE), .int .i64 (getL s).2.1], Z :: Tr (getL s).2.2 :: js) :=
  rgl_run (t := 1) (h := Z :: Tr s :: js) rfl ho hs
theorem rte_at {Z : Bx} {js : AH} {s : TS} (ho : okS0 s) : run T 74 [.box 1 0] (Z :: Tr s :: js) = some (.int .i64 (cdO (tapE s)), Z :: Tr s :: js) :=
  rte_run (t := 1) rfl ho
set_option maxHeartbeats 8000000 in
theorem rk_loop {Z : Bx} {v0 v1 v2 v3 v4 vE : AV} {n : Nat} (hn : n ≤ 1000) : ∀ (d i : Nat) (s : TS) (a : List Kd) (js : AH), d + i = n → okS0 s → s.1.length ≤ 1000000000 → a.length ≤ i →
    den T (.loop l_regencyref12_Parse_0) (s_regencyref12_Parse_0 (.box 0 0) (.box 1 0) (.box 2 0) vE (.int .i64 n) (.int .i64 i)) (Z :: Tr s :: .cells [v0, v1, v2, v3, v4, ow (a.map encK)] :: js) = some (.exit 0, x_regencyref12_Parse_0 (.box 0 0) (.box 1 0) (.box 2 0) vE, Z :: Tr (getK d s).2 :: .cells [v0, v1, v2, v3, v4, ow ((a ++ (getK d s).1).map encK)] :: (js ++ (getK d s).1.map bxK)) := by
  intro d
  induction d with
  | zero =>
    intro i s a js hd ho hs ha
    have hd' : decide ((i : Int) < n) = false := decide_eq_false (by omega)
    simp only [getK, List.append_nil, List.map_nil]
    rw [lp_round]
    simp -implicitDefEqProofs (disch := (refine id_ok ?_; first | assumption | omega | (simp only [go_sem, List.size_toArray, List.length_map, List.length_append, List.length_take, List.length_drop, List.length_cons, List.length_nil, mrLL_app, keyD_i, keyD_s, keyD_b, Nat.reduceAdd, Nat.reduceEqDiff, Nat.reduceLeDiff] <;> omega) | with_unfolding_all rfl | decide)) only [go_sem, Nat.reduceAdd, Nat.reduceSub, Nat.reduceMul, Nat.reduceLeDiff, Nat.reduceEqDiff, Nat.reduceBEq, reduceIte, reduceCtorEq, hd']
  | succ d ih =>
    intro i s a js hd ho hs ha
    have hd' : decide ((i : Int) < n) = true := decide_eq_true (by omega)
    have l1 := tapN_len 1048576 s
    have l2 := tapN_len 5 (tapN 1048576 s).2
    have l3 := tapN_len 1048576 (tapN 5 (tapN 1048576 s).2).2
    have o1 := tapN_ok (g := 1048576) ho
    have o2 := tapN_ok (g := 5) o1
    have o3 := tapN_ok (g := 1048576) o2
    have t1 := fun js => rtn_at (Z := Z) (js := js) (s := s) (g := 1048576) ho hs
    have t2 := fun js => rtn_at (Z := Z) (js := js) (s := (tapN 1048576 s).2) (g := 5) o1 (by omega)
    have t3 := fun js => rtn_at (Z := Z) (js := js) (s := (tapN 5 (tapN 1048576 s).2).2) (g := 1048576) o2 (by omega)
    simp only [show ((1048576 : Nat) : Int) = 1048576 from rfl, show ((5 : Nat) : Int) = 5 from rfl] at t1 t2 t3
    have e7 := inc64 (n := i) (by omega)
    have ih' := ih (i + 1) (tapN 1048576 (tapN 5 (tapN 1048576 s).2).2).2 (a ++ [(((tapN 1048576 s).1 : Int), ((tapN 5 (tapN 1048576 s).2).1 : Int), ((tapN 1048576 (tapN 5 (tapN 1048576 s).2).2).1 : Int))]) (js ++ [bxK (((tapN 1048576 s).1 : Int), ((tapN 5 (tapN 1048576 s).2).1 : Int), ((tapN 1048576 (tapN 5 (tapN 1048576 s).2).2).1 : Int))]) (by omega) o3 (by omega) (by simp; omega)
    simp only [getK]
    generalize tapN 1048576 s = x at *
    generalize tapN 5 x.2 = y at *
    generalize tapN 1048576 y.2 = z at *
    simp only [List.map_append, List.map_cons, List.map_nil, bxK, encK, List.append_assoc, List.singleton_append] at ih' ⊢
    rw [lp_round]
    simp (maxSteps := 4000000) -implicitDefEqProofs (disch := (refine id_ok ?_; first | assumption | omega | (simp only [go_sem, List.size_toArray, List.length_map, List.length_append, List.length_take, List.length_drop, List.length_cons, List.length_nil, mrLL_app, keyD_i, keyD_s, keyD_b, Nat.reduceAdd, Nat.reduceEqDiff, Nat.reduceLeDiff] <;> omega) | with_unfolding_all rfl | decide)) only [go_sem, Nat.reduceAdd, Nat.reduceSub, Nat.reduceMul, Nat.reduceLeDiff, Nat.reduceEqDiff, Nat.reduceBEq, reduceIte, reduceCtorEq, hd', app_get0, app_set0, t1, t2, t3, e7]
    exact ih'
set_option maxHeartbeats 16000000 in
theorem rpar_run {b : List UInt8} (hb : b.length ≤ 1000000000) : run T 44 [.sl .sh (b.map encB)] [] = some (.tup [.agg (encR ((parR b).getD zeroR)), .bool (parR b).isSome, .int .i64 (if (parR b).isSome = true then 0 else cdO (tapE (rdR b).s))], []) := by
  have o0 : okS0 (b, none) := fun q => by cases q
  have k1 := tapN_len 99 (b, none)
  have o1 := tapN_ok (g := 99) o0
  have t1 := fun Z js => rtn_at (Z := Z) (js := js) (s := (b, none)) (g := 99) o0 (by simp only; omega)
  have hrd : rdR b = rdR b := rfl
  conv at hrd => rhs; unfold rdR
  dsimp only at k1 hrd
  generalize tapN 99 (b, none) = e at *
  have k2 := tapN_len 1099511627776 e.2
  have o2 := tapN_ok (g := 1099511627776) o1
  have t2 := fun Z js => rtn_at (Z := Z) (js := js) (s := e.2) (g := 1099511627776) o1 (by omega)
  generalize tapN 1099511627776 e.2 = n at *
  have k3 := tapT_len 256 n.2
  have o3 := tapT_ok (g := 256) o2
  have t3 := fun Z js => rtt_at (Z := Z) (js := js) (s := n.2) (g := 256) o2 (by omega)
  have k3' := tapT_str 256 n.2
  generalize tapT 256 n.2 = tx at *
  have k4 := tapT_len 80 tx.2
  have k4' := tapT_str 80 tx.2
  have o4 := tapT_ok (g := 80) o3
  have t4 := fun Z js => rtt_at (Z := Z) (js := js) (s := tx.2) (g := 80) o3 (by omega)
  generalize tapT 80 tx.2 = ct at *
  have k5 := getL_len ct.2
  have o5 := getL_ok o4
  have t5 := fun Z js => rgl_at (Z := Z) (js := js) (s := ct.2) o4 (by omega)
  generalize getL ct.2 = lb at *
  have k6 := tapN_len 16 lb.2.2
  have k6' := tapN_le 16 lb.2.2
  have o6 := tapN_ok (g := 16) o5
  have t6 := fun Z js => rtn_at (Z := Z) (js := js) (s := lb.2.2) (g := 16) o5 (by omega)
  generalize tapN 16 lb.2.2 = k at *
  have k7 := getK_len k.1 k.2
  have o7 := getK_ok k.1 o6
  have t7 := fun Z v0 v1 v2 v3 v4 vE => rk_loop (Z := Z) (v0 := v0) (v1 := v1) (v2 := v2) (v3 := v3) (v4 := v4) (vE := vE) (n := k.1) (by omega) k.1 0 k.2 [] [] (by omega) o6 (by omega) (by simp)
  simp only [show ((0 : Nat) : Int) = 0 from rfl, List.nil_append, List.map_nil] at t7
  generalize getK k.1 k.2 = ks at *
  have t8 := fun Z js => rte_at (Z := Z) (js := js) (s := ks.2) o7
  obtain ⟨R, hR⟩ : ∃ R, Rep.mk e.1 n.1 tx.1 ct.1 lb.1 ks.1 = R := ⟨_, rfl⟩
  have hno : ∀ c, tapE ks.2 = c → (c ≠ none ∨ lb.2.1 ≠ 0 ∨ rigR R = false) → parR b = none := by
    intro c hc hn
    unfold parR
    rw [hrd]
    simp only [Rd1.r, hR, hc]
    rw [if_neg (by rintro ⟨q1, q2, q3⟩; rcases hn with hn | hn | hn; exact hn q1; exact hn q2; rw [q3] at hn; cases hn)]
  have hyes : tapE ks.2 = none → lb.2.1 = 0 → rigR R = true → parR b = some R := by
    intro q1 q2 q3
    unfold parR
    rw [hrd]
    simp only [Rd1.r, hR]
    rw [if_pos ⟨q1, q2, q3⟩]
  have hse : tapE (rdR b).s = tapE ks.2 := by rw [hrd]
  have t9 := rrigR_run (r := R) (by rw [← hR]; simp only; omega) (by rw [← hR]; simp only; omega) (by rw [← hR]; intro x hx; have := k5.2 x hx; omega)
  simp only [show ((99 : Nat) : Int) = 99 from rfl, show ((1099511627776 : Nat) : Int) = 1099511627776 from rfl, show ((256 : Nat) : Int) = 256 from rfl, show ((80 : Nat) : Int) = 80 from rfl, show ((16 : Nat) : Int) = 16 from rfl] at t1 t2 t3 t4 t6
  have hRe : encR R = [.int .i64 (e.1 : Int), .int .i64 (n.1 : Int), .sl .sh (tx.1.map encB), .str ⟨ct.1.toArray⟩, .sl .sh (lb.1.map encE), .sl .sh (ks.1.map encK)] := by rw [← hR]; rfl
  rw [hRe] at t9
  have hz : encR zeroR = [.int .i64 0, .int .i64 0, .sl .sh [], .str ⟨#[]⟩, .sl .sh [], .sl .sh []] := rfl
  have hTr : Bx.cells [.str ⟨b.toArray⟩, .int .i64 0] = Tr (b, none) := rfl
  rw [hse]
  have oE : tapE ks.2 ≠ some 0 := by
    unfold tapE
    split
    · exact o7
    · split
      · intro q; cases q
      · intro q; simp at q
  rw [run_code T_44]
  cases hE : tapE ks.2 with
  | some c =>
    rw [hE] at t8 oE
    have hc : c ≠ 0 := fun q => oE (by rw [q])
    have d1 : (c != 0) = true := by simp [hc]
    rw [hno _ hE (.inl (by simp))]
    simp only [cdO, Option.getD_some, Option.getD_none, Option.isSome_none, Bool.false_eq_true, if_false, hz] at t8 ⊢
    simp (maxSteps := 8000000) -implicitDefEqProofs (disch := (refine id_ok ?_; first | assumption | omega | (simp only [go_sem, List.size_toArray, List.length_map, List.length_append, List.length_take, List.length_drop, List.length_cons, List.length_nil, mrLL_app, keyD_i, keyD_s, keyD_b, Nat.reduceAdd, Nat.reduceEqDiff, Nat.reduceLeDiff] <;> omega) | with_unfolding_all rfl | decide)) only [go_sem, Nat.reduceAdd, Nat.reduceSub, Nat.reduceMul, Nat.reduceLeDiff, Nat.reduceEqDiff, Nat.reduceBEq, reduceIte, reduceCtorEq, c_regencyref12_Parse, hTr, t1, t2, t3, t4, t5, t6, t7, t8, d1]
  | none =>
    rw [hE] at t8
    simp only [cdO, Option.getD_none] at t8 ⊢
    by_cases hq : lb.2.1 = 0
    · have e1 : (lb.2.1 != 0) = false := by simp [hq]
      cases hr : rigR R with
      | false =>
        rw [hr] at t9
        rw [hno _ hE (.inr (.inr hr))]
        simp only [Option.getD_none, Option.isSome_none, Bool.false_eq_true, if_false, hz]
        simp (maxSteps := 8000000) -implicitDefEqProofs (disch := (refine id_ok ?_; first | assumption | omega | (simp only [go_sem, List.size_toArray, List.length_map, List.length_append, List.length_take, List.length_drop, List.length_cons, List.length_nil, mrLL_app, keyD_i, keyD_s, keyD_b, Nat.reduceAdd, Nat.reduceEqDiff, Nat.reduceLeDiff] <;> omega) | with_unfolding_all rfl | decide)) only [go_sem, Nat.reduceAdd, Nat.reduceSub, Nat.reduceMul, Nat.reduceLeDiff, Nat.reduceEqDiff, Nat.reduceBEq, reduceIte, reduceCtorEq, c_regencyref12_Parse, hTr, t1, t2, t3, t4, t5, t6, t7, t8, e1, t9]
      | true =>
        rw [hr] at t9
        rw [hyes hE hq hr]
        simp only [Option.getD_some, Option.isSome_some, if_true, hRe]
        simp (maxSteps := 8000000) -implicitDefEqProofs (disch := (refine id_ok ?_; first | assumption | omega | (simp only [go_sem, List.size_toArray, List.length_map, List.length_append, List.length_take, List.length_drop, List.length_cons, List.length_nil, mrLL_app, keyD_i, keyD_s, keyD_b, Nat.reduceAdd, Nat.reduceEqDiff, Nat.reduceLeDiff] <;> omega) | with_unfolding_all rfl | decide)) only [go_sem, Nat.reduceAdd, Nat.reduceSub, Nat.reduceMul, Nat.reduceLeDiff, Nat.reduceEqDiff, Nat.reduceBEq, reduceIte, reduceCtorEq, c_regencyref12_Parse, hTr, t1, t2, t3, t4, t5, t6, t7, t8, e1, t9]
    · have e1 : (lb.2.1 != 0) = true := by simp [hq]
      rw [hno _ hE (.inr (.inl hq))]
      simp only [Option.getD_none, Option.isSome_none, Bool.false_eq_true, if_false, hz]
      simp (maxSteps := 8000000) -implicitDefEqProofs (disch := (refine id_ok ?_; first | assumption | omega | (simp only [go_sem, List.size_toArray, List.length_map, List.length_append, List.length_take, List.length_drop, List.length_cons, List.length_nil, mrLL_app, keyD_i, keyD_s, keyD_b, Nat.reduceAdd, Nat.reduceEqDiff, Nat.reduceLeDiff] <;> omega) | with_unfolding_all rfl | decide)) only [go_sem, Nat.reduceAdd, Nat.reduceSub, Nat.reduceMul, Nat.reduceLeDiff, Nat.reduceEqDiff, Nat.reduceBEq, reduceIte, reduceCtorEq, c_regencyref12_Parse, hTr, t1, t2, t3, t4, t5, t6, t7, t8, e1]
end Go.Proofs.YtjeigcnaalleiaaGreatDoor.L
