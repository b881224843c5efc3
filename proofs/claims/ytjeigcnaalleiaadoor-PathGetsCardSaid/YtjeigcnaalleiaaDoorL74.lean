/- The document's tape: numbers written and read. -/
import Derived.Test.YtjeigcnaalleiaaDoorL20
import Derived.Test.YtjeigcnaalleiaaDoorL22
set_option linter.all false
set_option maxRecDepth 100000
namespace Go.Proofs.YtjeigcnaalleiaaDoor.L
open Go.Proofs.YtjeigcnaalleiaaDoor.M Go.Proofs.YtjeigcnaalleiaaDoor.F Go.Proofs

theorem inc64 {n : Nat} (h : n ≤ 9223372036854775806) : IntKind.i64.wrap ((n : Int) + 1) = ((n + 1 : Nat) : Int) := by rw [w64 (by omega) (by omega)]; rfl
theorem str_app {a b : List UInt8} : (⟨a.toArray⟩ : ByteArray) ++ (⟨b.toArray⟩ : ByteArray) = ⟨(a ++ b).toArray⟩ := by
  apply ByteArray.ext
  simp [ByteArray.data_append]
theorem str_get {a : List UInt8} {i : Nat} : (⟨a.toArray⟩ : ByteArray)[i]? = a[i]? := by
  rw [show (⟨a.toArray⟩ : ByteArray)[i]? = a.toArray[i]? from ?_]
  · simp
  · by_cases h : i < a.length
    · rw [getElem?_pos (⟨a.toArray⟩ : ByteArray) i (by simpa [ByteArray.size] using h), getElem?_pos a.toArray i (by simpa using h)]; rfl
    · rw [getElem?_neg (⟨a.toArray⟩ : ByteArray) i (by simpa [ByteArray.size] using h), getElem?_neg a.toArray i (by simpa using h)]
attribute [go_sem] str_app str_get List.size_toArray
theorem byt1 {m : Md} {x : UInt8} : bytesV (.sl m [[.int .u8 (x.toNat : Int)]]) = some (.str ⟨[x].toArray⟩) := bytes_enc (l := [x])
attribute [go_sem] byt1
theorem rn_run : ∀ (n : Nat) {h : AH}, n ≤ 4611686018427387903 → run T 50 [.int .i64 n] h = some (.str ⟨(num n).toArray⟩, h) := by
  intro n
  induction n using Nat.strongRecOn with
  | _ n ih =>
    intro h hn
    rw [run_code T_50]
    rw [num]
    by_cases hc : n < 128
    · have hd : decide ((n : Int) < 128) = true := decide_eq_true (by omega)
      rw [dif_pos hc]
      simp -implicitDefEqProofs (disch := (refine id_ok ?_; first | assumption | omega | (simp only [go_sem, List.size_toArray, List.length_map, List.length_append, List.length_take, List.length_drop, List.length_cons, List.length_nil, mrLL_app, keyD_i, keyD_s, keyD_b, Nat.reduceAdd, Nat.reduceEqDiff, Nat.reduceLeDiff] <;> omega) | with_unfolding_all rfl | decide)) only [go_sem, Nat.reduceAdd, Nat.reduceSub, Nat.reduceMul, Nat.reduceLeDiff, Nat.reduceEqDiff, Nat.reduceBEq, reduceIte, reduceCtorEq, c_regencyref03_Number, hd, tm8 hc]
    · have hd : decide ((n : Int) < 128) = false := decide_eq_false (by omega)
      have h1 := ih (n / 128) (by omega) (h := []) (by omega)
      have h9 := num_len (n := n / 128) (by omega)
      have e1 : IntKind.u8.wrap (IntKind.i64.wrap (128 + (n : Int).tmod 128)) = ((UInt8.ofNat (n % 128 + 128)).toNat : Int) := by rw [Int.add_comm 128]; exact tm128 hn
      rw [dif_neg hc]
      simp -implicitDefEqProofs (disch := (refine id_ok ?_; first | assumption | omega | (simp only [go_sem, List.size_toArray, List.length_map, List.length_append, List.length_take, List.length_drop, List.length_cons, List.length_nil, mrLL_app, keyD_i, keyD_s, keyD_b, Nat.reduceAdd, Nat.reduceEqDiff, Nat.reduceLeDiff] <;> omega) | with_unfolding_all rfl | decide)) only [go_sem, Nat.reduceAdd, Nat.reduceSub, Nat.reduceMul, Nat.reduceLeDiff, Nat.reduceEqDiff, Nat.reduceBEq, reduceIte, reduceCtorEq, c_regencyref03_Number, hd, e1, td128 hn, h1, List.cons_append, List.nil_append]
/-- How many bytes of at least 128 stand ahead (at most n). -/
def ldF : Nat → List UInt8 → Nat
  | 0, _ => 0
  | _ + 1, [] => 0
  | n + 1, c :: r => if 128 ≤ c.toNat then ldF n r + 1 else 0
theorem ldF_le : ∀ (n : Nat) (l : List UInt8), ldF n l ≤ n ∧ ldF n l ≤ l.length
  | 0, l => by simp [ldF]
  | n + 1, [] => by simp [ldF]
  | n + 1, c :: r => by
    have := ldF_le n r
    simp only [ldF]
    split
    · simp; omega
    · simp
/-- The number that bytes spell, the lowest ahead. -/
def smN : List UInt8 → Nat
  | [] => 0
  | c :: r => c.toNat % 128 + 128 * smN r
theorem smN_lt : ∀ (l : List UInt8), smN l < 128 ^ l.length
  | [] => by simp [smN]
  | c :: r => by
    have := smN_lt r
    simp only [smN, List.length_cons, Nat.pow_succ]
    omega
theorem rdN_ld : ∀ (l : List UInt8) (acc i : Nat), i ≤ 9 →
    rdN acc i l = if ldF (10 - i) l = l.length ∧ ldF (10 - i) l < 10 - i then (0, 0, 11)
      else if 9 ≤ i + ldF (10 - i) l ∨ (0 < i + ldF (10 - i) l ∧ l[ldF (10 - i) l]? = some 0) then (0, 0, 10)
      else (acc + smN (l.take (ldF (10 - i) l + 1)) * 128 ^ i, i + ldF (10 - i) l + 1, 0)
  | [], acc, i, hi => by
    have h0 : ldF (10 - i) [] = 0 := by obtain ⟨k, hk⟩ : ∃ k, 10 - i = k + 1 := ⟨9 - i, by omega⟩; rw [hk]; rfl
    rw [h0, if_pos ⟨rfl, by omega⟩]; rfl
  | c :: r, acc, i, hi => by
    obtain ⟨k, hk⟩ : ∃ k, 10 - i = k + 1 := ⟨9 - i, by omega⟩
    have hcl := c.toNat_lt
    by_cases hc : 128 ≤ c.toNat
    · have hl : ldF (10 - i) (c :: r) = ldF k r + 1 := by rw [hk]; simp [ldF, hc]
      have hle := ldF_le k r
      rw [hl]
      by_cases h9 : i = 9
      · simp only [rdN]
        rw [if_pos h9, if_neg (by rintro ⟨q1, q2⟩; omega), if_pos (.inl (by omega))]
      · have ih := rdN_ld r (acc + (c.toNat - 128) * 128 ^ i) (i + 1) (by omega)
        rw [show 10 - (i + 1) = k by omega] at ih
        simp only [rdN]
        rw [if_neg h9, if_pos hc, ih]
        by_cases hA : ldF k r = r.length ∧ ldF k r < k
        · rw [if_pos hA, if_pos ⟨by simp; omega, by omega⟩]
        · have hA2 : ¬ (ldF k r + 1 = (c :: r).length ∧ ldF k r + 1 < 10 - i) := by rintro ⟨q1, q2⟩; rw [List.length_cons] at q1; exact hA ⟨by omega, by omega⟩
          rw [if_neg hA, if_neg hA2]
          have hg : (c :: r)[ldF k r + 1]? = r[ldF k r]? := by simp
          rw [hg]
          by_cases hB : 9 ≤ i + 1 + ldF k r ∨ (0 < i + 1 + ldF k r ∧ r[ldF k r]? = some 0)
          · have hB2 : 9 ≤ i + (ldF k r + 1) ∨ (0 < i + (ldF k r + 1) ∧ r[ldF k r]? = some 0) := by rcases hB with hB | hB; exact .inl (by omega); exact .inr ⟨by omega, hB.2⟩
            rw [if_pos hB, if_pos hB2]
          · have hB2 : ¬ (9 ≤ i + (ldF k r + 1) ∨ (0 < i + (ldF k r + 1) ∧ r[ldF k r]? = some 0)) := by intro q; apply hB; rcases q with q | q; exact .inl (by omega); exact .inr ⟨by omega, q.2⟩
            rw [if_neg hB, if_neg hB2]
            rw [List.take_succ_cons, smN]
            have e1 : c.toNat % 128 = c.toNat - 128 := by omega
            have e2 : smN (List.take (ldF k r + 1) r) * 128 ^ (i + 1) = 128 * smN (List.take (ldF k r + 1) r) * 128 ^ i := by rw [Nat.pow_succ, Nat.mul_comm (128 ^ i) 128, ← Nat.mul_assoc, Nat.mul_comm (smN _) 128]
            rw [e1, e2, Nat.add_mul, Nat.add_assoc]
            congr 2
            omega
    · have hl : ldF (10 - i) (c :: r) = 0 := by rw [hk]; simp [ldF, hc]
      rw [hl, if_neg (by rintro ⟨q1, q2⟩; simp at q1)]
      simp only [rdN]
      have hg : (c :: r)[0]? = some c := rfl
      rw [hg]
      by_cases h9 : i = 9
      · rw [if_pos h9, if_pos (.inl (by omega))]
      · rw [if_neg h9, if_neg hc]
        by_cases hz : c.toNat = 0 ∧ 0 < i
        · rw [if_pos hz, if_pos (.inr ⟨by omega, by rw [Option.some.injEq]; exact UInt8.toNat_inj.1 (by simpa using hz.1)⟩)]
        · rw [if_neg hz, if_neg (by
            rintro (q | ⟨q1, q2⟩)
            · omega
            · rw [Option.some.injEq] at q2
              exact hz ⟨by rw [q2]; rfl, by omega⟩)]
          have e1 : c.toNat % 128 = c.toNat := by omega
          simp only [List.take_succ_cons, List.take_zero, smN, Nat.mul_zero, Nat.add_zero, e1]

/-! ### the walk -/
def cdO (e : Option Int) : Int := e.getD 0
def Tr (s : TS) : Bx := .cells [.str ⟨s.1.toArray⟩, .int .i64 (cdO s.2)]
def okS0 (s : TS) : Prop := s.2 ≠ some 0
theorem ld_loop {t : Nat} {g : Int} {l : List UInt8} {e : Int} {h : AH} (ht : h[t]? = some (.cells [.str ⟨l.toArray⟩, .int .i64 e])) (hl : l.length ≤ 1000000000) : ∀ (d k : Nat), d + k = 10 → k ≤ l.length →
    den T (.loop l_regencyref03_Tape_Number_0) (s_regencyref03_Tape_Number_0 (.box t 0) (.int .i64 g) (.int .i64 k)) h = some (.exit 0, x_regencyref03_Tape_Number_0 (.box t 0) (.int .i64 g) (.int .i64 (k + ldF d (l.drop k) : Nat)), h) := by
  intro d
  induction d with
  | zero =>
    intro k hd hk
    have d2 : decide ((k : Int) < 10) = false := decide_eq_false (by omega)
    simp only [ldF, Nat.add_zero]
    by_cases h1 : k = l.length
    · have d1 : decide ((k : Int) < l.length) = false := decide_eq_false (by omega)
      rw [lp_round]
      simp -implicitDefEqProofs (disch := (refine id_ok ?_; first | assumption | omega | (simp only [go_sem, List.size_toArray, List.length_map, List.length_append, List.length_take, List.length_drop, List.length_cons, List.length_nil, mrLL_app, keyD_i, keyD_s, keyD_b, Nat.reduceAdd, Nat.reduceEqDiff, Nat.reduceLeDiff] <;> omega) | with_unfolding_all rfl | decide)) only [go_sem, Nat.reduceAdd, Nat.reduceSub, Nat.reduceMul, Nat.reduceLeDiff, Nat.reduceEqDiff, Nat.reduceBEq, reduceIte, reduceCtorEq, ht, d1]
    · have d1 : decide ((k : Int) < l.length) = true := decide_eq_true (by omega)
      rw [lp_round]
      simp -implicitDefEqProofs (disch := (refine id_ok ?_; first | assumption | omega | (simp only [go_sem, List.size_toArray, List.length_map, List.length_append, List.length_take, List.length_drop, List.length_cons, List.length_nil, mrLL_app, keyD_i, keyD_s, keyD_b, Nat.reduceAdd, Nat.reduceEqDiff, Nat.reduceLeDiff] <;> omega) | with_unfolding_all rfl | decide)) only [go_sem, Nat.reduceAdd, Nat.reduceSub, Nat.reduceMul, Nat.reduceLeDiff, Nat.reduceEqDiff, Nat.reduceBEq, reduceIte, reduceCtorEq, ht, d1, d2]
  | succ d ih =>
    intro k hd hk
    have d2 : decide ((k : Int) < 10) = true := decide_eq_true (by omega)
    by_cases h1 : k = l.length
    · have d1 : decide ((k : Int) < l.length) = false := decide_eq_false (by omega)
      rw [List.drop_eq_nil_of_le (by omega)]
      simp only [ldF, Nat.add_zero]
      rw [lp_round]
      simp -implicitDefEqProofs (disch := (refine id_ok ?_; first | assumption | omega | (simp only [go_sem, List.size_toArray, List.length_map, List.length_append, List.length_take, List.length_drop, List.length_cons, List.length_nil, mrLL_app, keyD_i, keyD_s, keyD_b, Nat.reduceAdd, Nat.reduceEqDiff, Nat.reduceLeDiff] <;> omega) | with_unfolding_all rfl | decide)) only [go_sem, Nat.reduceAdd, Nat.reduceSub, Nat.reduceMul, Nat.reduceLeDiff, Nat.reduceEqDiff, Nat.reduceBEq, reduceIte, reduceCtorEq, ht, d1]
    · have hkl : k < l.length := by omega
      have d1 : decide ((k : Int) < l.length) = true := decide_eq_true (by omega)
      have hge : l[(k : Int).toNat]? = some l[k] := by simp [hkl]
      have hdr : l.drop k = l[k] :: l.drop (k + 1) := List.drop_eq_getElem_cons hkl
      have e7 := inc64 (n := k) (by omega)
      rw [hdr]
      generalize l[k] = c at *
      simp only [ldF]
      by_cases hc : 128 ≤ c.toNat
      · have d3 : decide ((c.toNat : Int) ≥ 128) = true := decide_eq_true (by omega)
        rw [if_pos hc]
        have ih' := ih (k + 1) (by omega) (by omega)
        rw [show k + (ldF d (List.drop (k + 1) l) + 1) = k + 1 + ldF d (List.drop (k + 1) l) by omega]
        rw [lp_round]
        simp -implicitDefEqProofs (disch := (refine id_ok ?_; first | assumption | omega | (simp only [go_sem, List.size_toArray, List.length_map, List.length_append, List.length_take, List.length_drop, List.length_cons, List.length_nil, mrLL_app, keyD_i, keyD_s, keyD_b, Nat.reduceAdd, Nat.reduceEqDiff, Nat.reduceLeDiff] <;> omega) | with_unfolding_all rfl | decide)) only [go_sem, Nat.reduceAdd, Nat.reduceSub, Nat.reduceMul, Nat.reduceLeDiff, Nat.reduceEqDiff, Nat.reduceBEq, reduceIte, reduceCtorEq, ht, d1, d2, hge, d3, e7]
        exact ih'
      · have d3 : decide ((c.toNat : Int) ≥ 128) = false := decide_eq_false (by omega)
        rw [if_neg hc]
        rw [lp_round]
        simp -implicitDefEqProofs (disch := (refine id_ok ?_; first | assumption | omega | (simp only [go_sem, List.size_toArray, List.length_map, List.length_append, List.length_take, List.length_drop, List.length_cons, List.length_nil, mrLL_app, keyD_i, keyD_s, keyD_b, Nat.reduceAdd, Nat.reduceEqDiff, Nat.reduceLeDiff] <;> omega) | with_unfolding_all rfl | decide)) only [go_sem, Nat.reduceAdd, Nat.reduceSub, Nat.reduceMul, Nat.reduceLeDiff, Nat.reduceEqDiff, Nat.reduceBEq, reduceIte, reduceCtorEq, ht, d1, d2, hge, d3]
theorem hv_loop {t k : Nat} {g : Int} {l : List UInt8} {e : Int} {h : AH} (ht : h[t]? = some (.cells [.str ⟨l.toArray⟩, .int .i64 e])) (hk : k < l.length) (hk8 : k ≤ 8) : ∀ (j : Nat), j ≤ k + 1 →
    den T (.loop l_regencyref03_Tape_Number_1) (s_regencyref03_Tape_Number_1 (.box t 0) (.int .i64 g) (.int .i64 k) (.int .i64 (smN ((l.take (k + 1)).drop j) : Nat)) (.int .i64 ((j : Int) - 1))) h = some (.exit 2, x_regencyref03_Tape_Number_2 (.box t 0) (.int .i64 g) (.int .i64 k) (.int .i64 (smN (l.take (k + 1)) : Nat)), h) := by
  intro j
  induction j with
  | zero =>
    intro _
    have d1 : decide (((0 : Nat) : Int) - 1 ≥ 0) = false := by decide
    rw [List.drop_zero]
    rw [lp_round]
    simp -implicitDefEqProofs (disch := (refine id_ok ?_; first | assumption | omega | (simp only [go_sem, List.size_toArray, List.length_map, List.length_append, List.length_take, List.length_drop, List.length_cons, List.length_nil, mrLL_app, keyD_i, keyD_s, keyD_b, Nat.reduceAdd, Nat.reduceEqDiff, Nat.reduceLeDiff] <;> omega) | with_unfolding_all rfl | decide)) only [go_sem, Nat.reduceAdd, Nat.reduceSub, Nat.reduceMul, Nat.reduceLeDiff, Nat.reduceEqDiff, Nat.reduceBEq, reduceIte, reduceCtorEq, d1]
  | succ j ih =>
    intro hj
    have e0 : ((j + 1 : Nat) : Int) - 1 = (j : Int) := by omega
    have d1 : decide ((j : Int) ≥ 0) = true := decide_eq_true (by omega)
    have hjl : j < l.length := by omega
    have hge : l[(j : Int).toNat]? = some l[j] := by simp [hjl]
    have hjt : j < (l.take (k + 1)).length := by simp; omega
    have hdr : (l.take (k + 1)).drop j = l[j] :: (l.take (k + 1)).drop (j + 1) := by rw [List.drop_eq_getElem_cons hjt]; simp
    have hlt := smN_lt ((l.take (k + 1)).drop j)
    have hlen : ((l.take (k + 1)).drop j).length ≤ 9 := by simp; omega
    have h9 : smN ((l.take (k + 1)).drop j) < 9223372036854775808 := Nat.lt_of_lt_of_le hlt (by have := Nat.pow_le_pow_right (n := 128) (by omega) hlen; simpa using this)
    have ih' := ih (by omega)
    rw [hdr, smN] at h9 ih'
    generalize l[j] = c at *
    have hcl := c.toNat_lt
    generalize smN ((l.take (k + 1)).drop (j + 1)) = m at *
    have f1 : IntKind.i64.wrap (128 * (m : Int)) = ((128 * m : Nat) : Int) := by rw [w64 (by omega) (by omega)]; omega
    have f2 : IntKind.i64.wrap (c.toNat : Int) = (c.toNat : Int) := w64 (by omega) (by omega)
    have f3 : (c.toNat : Int).tmod 128 = ((c.toNat % 128 : Nat) : Int) := by rw [Int.tmod_eq_emod_of_nonneg (by omega)]; rfl
    have f4 : IntKind.i64.wrap (((128 * m : Nat) : Int) + ((c.toNat % 128 : Nat) : Int)) = ((c.toNat % 128 + 128 * m : Nat) : Int) := by rw [w64 (by omega) (by omega)]; omega
    have f5 : IntKind.i64.wrap ((j : Int) - 1) = (j : Int) - 1 := w64 (by omega) (by omega)
    rw [e0]
    rw [lp_round]
    simp -implicitDefEqProofs (disch := (refine id_ok ?_; first | assumption | omega | (simp only [go_sem, List.size_toArray, List.length_map, List.length_append, List.length_take, List.length_drop, List.length_cons, List.length_nil, mrLL_app, keyD_i, keyD_s, keyD_b, Nat.reduceAdd, Nat.reduceEqDiff, Nat.reduceLeDiff] <;> omega) | with_unfolding_all rfl | decide)) only [go_sem, Nat.reduceAdd, Nat.reduceSub, Nat.reduceMul, Nat.reduceLeDiff, Nat.reduceEqDiff, Nat.reduceBEq, reduceIte, reduceCtorEq, d1, ht, hge, f1, f2, f3, f4, f5]
    exact ih'
set_option maxHeartbeats 8000000 in
theorem rtn_run {t g : Nat} {s : TS} {h : AH} (ht : h[t]? = some (Tr s)) (hs : okS0 s) (hl : s.1.length ≤ 1000000000) :
    run T 36 [.box t 0, .int .i64 g] h = some (.int .i64 (tapN g s).1, h.set t (Tr (tapN g s).2)) := by
  have hsame := set_same ht
  obtain ⟨l, e⟩ := s
  simp only at hl
  cases e with
  | some c =>
    have hc : c ≠ 0 := fun q => hs (by rw [q])
    have d1 : (c != 0) = true := by simp [hc]
    simp only [tapN, Option.isSome_some, if_true]
    rw [hsame]
    simp only [Tr, cdO, Option.getD_some] at ht
    rw [run_code T_36]
    simp -implicitDefEqProofs (disch := (refine id_ok ?_; first | assumption | omega | (simp only [go_sem, List.size_toArray, List.length_map, List.length_append, List.length_take, List.length_drop, List.length_cons, List.length_nil, mrLL_app, keyD_i, keyD_s, keyD_b, Nat.reduceAdd, Nat.reduceEqDiff, Nat.reduceLeDiff] <;> omega) | with_unfolding_all rfl | decide)) only [go_sem, Nat.reduceAdd, Nat.reduceSub, Nat.reduceMul, Nat.reduceLeDiff, Nat.reduceEqDiff, Nat.reduceBEq, reduceIte, reduceCtorEq, c_regencyref03_Tape_Number, ht, d1]
    all_goals first | rfl | exact ⟨rfl, rfl⟩
  | none =>
    have hrd := rdN_ld l 0 0 (by omega)
    simp only [Tr, cdO, Option.getD_none] at ht
    have hld := ld_loop (g := g) ht hl 10 0 rfl (by omega)
    rw [List.drop_zero] at hld
    have hle := ldF_le 10 l
    simp only [Nat.sub_zero, Nat.zero_add, Nat.pow_zero, Nat.mul_one] at hrd hld
    simp only [show ((0 : Nat) : Int) = 0 from rfl] at hld
    simp only [tapN, Option.isSome_none, Bool.false_eq_true, if_false]
    generalize ldF 10 l = k at *
    rw [run_code T_36]
    by_cases hA : k = l.length ∧ k < 10
    · rw [if_pos hA] at hrd
      rw [hrd, if_pos (by simp)]
      have d1 : ((k : Int) == (l.length : Int)) = true := by simp; omega
      have d2 : decide ((k : Int) < 10) = true := decide_eq_true (by omega)
      by_cases h9 : k = 9
      · have d3 : ((k : Int) == 9) = true := by simp [h9]
        simp -implicitDefEqProofs (disch := (refine id_ok ?_; first | assumption | omega | (simp only [go_sem, List.size_toArray, List.length_map, List.length_append, List.length_take, List.length_drop, List.length_cons, List.length_nil, mrLL_app, keyD_i, keyD_s, keyD_b, Nat.reduceAdd, Nat.reduceEqDiff, Nat.reduceLeDiff] <;> omega) | with_unfolding_all rfl | decide)) only [go_sem, Nat.reduceAdd, Nat.reduceSub, Nat.reduceMul, Nat.reduceLeDiff, Nat.reduceEqDiff, Nat.reduceBEq, reduceIte, reduceCtorEq, c_regencyref03_Tape_Number, ht, hld, d1, d2, d3, Tr, cdO]
        all_goals first | rfl | exact ⟨rfl, rfl⟩
      · have d3 : ((k : Int) == 9) = false := by simp; omega
        simp -implicitDefEqProofs (disch := (refine id_ok ?_; first | assumption | omega | (simp only [go_sem, List.size_toArray, List.length_map, List.length_append, List.length_take, List.length_drop, List.length_cons, List.length_nil, mrLL_app, keyD_i, keyD_s, keyD_b, Nat.reduceAdd, Nat.reduceEqDiff, Nat.reduceLeDiff] <;> omega) | with_unfolding_all rfl | decide)) only [go_sem, Nat.reduceAdd, Nat.reduceSub, Nat.reduceMul, Nat.reduceLeDiff, Nat.reduceEqDiff, Nat.reduceBEq, reduceIte, reduceCtorEq, c_regencyref03_Tape_Number, ht, hld, d1, d2, d3, Tr, cdO]
        all_goals first | rfl | exact ⟨rfl, rfl⟩
    · rw [if_neg hA] at hrd
      have hA' : ((k : Int) == (l.length : Int)) = false ∨ (((k : Int) == (l.length : Int)) = true ∧ decide ((k : Int) < 10) = false) := by
        by_cases q : k = l.length
        · right; exact ⟨by simp [q], decide_eq_false (by omega)⟩
        · left; simp; omega
      by_cases h9 : 9 ≤ k
      · rw [if_pos (.inl h9)] at hrd
        rw [hrd, if_pos (by simp)]
        have d4 : decide ((k : Int) ≥ 9) = true := decide_eq_true (by omega)
        rcases hA' with d1 | ⟨d1, d2⟩
        · simp (maxSteps := 2000000) -implicitDefEqProofs (disch := (refine id_ok ?_; first | assumption | omega | (simp only [go_sem, List.size_toArray, List.length_map, List.length_append, List.length_take, List.length_drop, List.length_cons, List.length_nil, mrLL_app, keyD_i, keyD_s, keyD_b, Nat.reduceAdd, Nat.reduceEqDiff, Nat.reduceLeDiff] <;> omega) | with_unfolding_all rfl | decide)) only [go_sem, Nat.reduceAdd, Nat.reduceSub, Nat.reduceMul, Nat.reduceLeDiff, Nat.reduceEqDiff, Nat.reduceBEq, reduceIte, reduceCtorEq, c_regencyref03_Tape_Number, ht, hld, d1, d4, Tr, cdO]
          all_goals first | rfl | exact ⟨rfl, rfl⟩
        · simp (maxSteps := 2000000) -implicitDefEqProofs (disch := (refine id_ok ?_; first | assumption | omega | (simp only [go_sem, List.size_toArray, List.length_map, List.length_append, List.length_take, List.length_drop, List.length_cons, List.length_nil, mrLL_app, keyD_i, keyD_s, keyD_b, Nat.reduceAdd, Nat.reduceEqDiff, Nat.reduceLeDiff] <;> omega) | with_unfolding_all rfl | decide)) only [go_sem, Nat.reduceAdd, Nat.reduceSub, Nat.reduceMul, Nat.reduceLeDiff, Nat.reduceEqDiff, Nat.reduceBEq, reduceIte, reduceCtorEq, c_regencyref03_Tape_Number, ht, hld, d1, d2, d4, Tr, cdO]
          all_goals first | rfl | exact ⟨rfl, rfl⟩
      · have d4 : decide ((k : Int) ≥ 9) = false := decide_eq_false (by omega)
        have hkl : k < l.length := by omega
        have d1 : ((k : Int) == (l.length : Int)) = false := by simp; omega
        have hge : l[(k : Int).toNat]? = some l[k] := by simp [hkl]
        have hgk : l[k]? = some l[k] := by simp [hkl]
        have hhv := hv_loop (g := g) (k := k) ht hkl (by omega) (k + 1) (by omega)
        rw [List.drop_eq_nil_of_le (by simp; omega), smN] at hhv
        simp only [show ((k + 1 : Nat) : Int) - 1 = (k : Int) by omega, show ((0 : Nat) : Int) = 0 from rfl] at hhv
        rw [hgk] at hrd
        have hsm : smN (l.take (k + 1)) < 9223372036854775808 := by
          have h1 := smN_lt (l.take (k + 1))
          have hlen : (l.take (k + 1)).length ≤ 9 := by simp; omega
          exact Nat.lt_of_lt_of_le h1 (by have := Nat.pow_le_pow_right (n := 128) (by omega) hlen; simpa using this)
        have e7 := inc64 (n := k) (by omega)
        generalize l[k] = c at *
        generalize smN (l.take (k + 1)) = n at *
        have hfin : ((0 < k ∧ c = 0) ∧ rdN 0 0 l = (0, 0, 10)) ∨ (¬ (0 < k ∧ c = 0) ∧ rdN 0 0 l = (n, k + 1, 0)) := by
          by_cases q : 0 < k ∧ c = 0
          · left; refine ⟨q, ?_⟩; rw [hrd, if_pos (.inr ⟨q.1, by rw [q.2]⟩)]
          · right; refine ⟨q, ?_⟩; rw [hrd, if_neg (by rintro (r1 | r2); exact h9 r1; exact q ⟨r2.1, Option.some.inj r2.2⟩)]
        have hsl := slc_hi (s := l) (i := ((k + 1 : Nat) : Int)) (by omega) (by omega)
        rw [Int.toNat_natCast] at hsl
        rcases hfin with ⟨⟨q1, q2⟩, hr⟩ | ⟨hq, hr⟩
        · rw [hr, if_pos (by simp)]
          have d5 : decide ((k : Int) > 0) = true := decide_eq_true (by omega)
          have d6 : ((c.toNat : Int) == 0) = true := by rw [q2]; rfl
          simp (maxSteps := 2000000) -implicitDefEqProofs (disch := (refine id_ok ?_; first | assumption | omega | (simp only [go_sem, List.size_toArray, List.length_map, List.length_append, List.length_take, List.length_drop, List.length_cons, List.length_nil, mrLL_app, keyD_i, keyD_s, keyD_b, Nat.reduceAdd, Nat.reduceEqDiff, Nat.reduceLeDiff] <;> omega) | with_unfolding_all rfl | decide)) only [go_sem, Nat.reduceAdd, Nat.reduceSub, Nat.reduceMul, Nat.reduceLeDiff, Nat.reduceEqDiff, Nat.reduceBEq, reduceIte, reduceCtorEq, c_regencyref03_Tape_Number, ht, hld, d1, d4, d5, hge, d6, Tr, cdO]
          all_goals first | rfl | exact ⟨rfl, rfl⟩
        · rw [hr, if_neg (by simp)]
          have hk0 : decide ((k : Int) > 0) = false ∨ (decide ((k : Int) > 0) = true ∧ ((c.toNat : Int) == 0) = false) := by
            by_cases q : 0 < k
            · right
              refine ⟨decide_eq_true (by omega), ?_⟩
              rw [beq_eq_false_iff_ne]
              intro z
              exact hq ⟨q, UInt8.toNat_inj.1 (by simpa using (show c.toNat = 0 by omega))⟩
            · left; exact decide_eq_false (by omega)
          simp only
          by_cases hg : g < n
          · have d7 : decide ((n : Int) > g) = true := decide_eq_true (by omega)
            rw [if_pos hg]
            rcases hk0 with d5 | ⟨d5, d6⟩
            · simp (maxSteps := 2000000) -implicitDefEqProofs (disch := (refine id_ok ?_; first | assumption | omega | (simp only [go_sem, List.size_toArray, List.length_map, List.length_append, List.length_take, List.length_drop, List.length_cons, List.length_nil, mrLL_app, keyD_i, keyD_s, keyD_b, Nat.reduceAdd, Nat.reduceEqDiff, Nat.reduceLeDiff] <;> omega) | with_unfolding_all rfl | decide)) only [go_sem, Nat.reduceAdd, Nat.reduceSub, Nat.reduceMul, Nat.reduceLeDiff, Nat.reduceEqDiff, Nat.reduceBEq, reduceIte, reduceCtorEq, c_regencyref03_Tape_Number, ht, hld, d1, d4, d5, hhv, d7, Tr, cdO]
              all_goals first | rfl | exact ⟨rfl, rfl⟩
            · simp (maxSteps := 2000000) -implicitDefEqProofs (disch := (refine id_ok ?_; first | assumption | omega | (simp only [go_sem, List.size_toArray, List.length_map, List.length_append, List.length_take, List.length_drop, List.length_cons, List.length_nil, mrLL_app, keyD_i, keyD_s, keyD_b, Nat.reduceAdd, Nat.reduceEqDiff, Nat.reduceLeDiff] <;> omega) | with_unfolding_all rfl | decide)) only [go_sem, Nat.reduceAdd, Nat.reduceSub, Nat.reduceMul, Nat.reduceLeDiff, Nat.reduceEqDiff, Nat.reduceBEq, reduceIte, reduceCtorEq, c_regencyref03_Tape_Number, ht, hld, d1, d4, d5, hge, d6, hhv, d7, Tr, cdO]
              all_goals first | rfl | exact ⟨rfl, rfl⟩
          · have d7 : decide ((n : Int) > g) = false := decide_eq_false (by omega)
            rw [if_neg hg]
            rcases hk0 with d5 | ⟨d5, d6⟩
            · simp (maxSteps := 2000000) -implicitDefEqProofs (disch := (refine id_ok ?_; first | assumption | omega | (simp only [go_sem, List.size_toArray, List.length_map, List.length_append, List.length_take, List.length_drop, List.length_cons, List.length_nil, mrLL_app, keyD_i, keyD_s, keyD_b, Nat.reduceAdd, Nat.reduceEqDiff, Nat.reduceLeDiff] <;> omega) | with_unfolding_all rfl | decide)) only [go_sem, Nat.reduceAdd, Nat.reduceSub, Nat.reduceMul, Nat.reduceLeDiff, Nat.reduceEqDiff, Nat.reduceBEq, reduceIte, reduceCtorEq, c_regencyref03_Tape_Number, ht, hld, d1, d4, d5, hhv, d7, e7, hsl, Tr, cdO]
              all_goals first | rfl | exact ⟨rfl, rfl⟩
            · simp (maxSteps := 2000000) -implicitDefEqProofs (disch := (refine id_ok ?_; first | assumption | omega | (simp only [go_sem, List.size_toArray, List.length_map, List.length_append, List.length_take, List.length_drop, List.length_cons, List.length_nil, mrLL_app, keyD_i, keyD_s, keyD_b, Nat.reduceAdd, Nat.reduceEqDiff, Nat.reduceLeDiff] <;> omega) | with_unfolding_all rfl | decide)) only [go_sem, Nat.reduceAdd, Nat.reduceSub, Nat.reduceMul, Nat.reduceLeDiff, Nat.reduceEqDiff, Nat.reduceBEq, reduceIte, reduceCtorEq, c_regencyref03_Tape_Number, ht, hld, d1, d4, d5, hge, d6, hhv, d7, e7, hsl, Tr, cdO]
              all_goals first | rfl | exact ⟨rfl, rfl⟩
theorem tapN_ok {g : Nat} {s : TS} (hs : okS0 s) : okS0 (tapN g s).2 := by
  unfold tapN
  split
  · exact hs
  · split
    · rename_i h1 h2
      intro q
      simp only [Option.some.injEq] at q
      omega
    · split
      · intro q; simp at q
      · intro q; cases q
end Go.Proofs.YtjeigcnaalleiaaDoor.L
