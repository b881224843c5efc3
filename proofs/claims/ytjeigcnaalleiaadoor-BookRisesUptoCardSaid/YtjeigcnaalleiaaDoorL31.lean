/- Books: copies, verdicts, the last reply. -/
import Derived.Test.YtjeigcnaalleiaaDoorL30
set_option linter.all false
set_option maxRecDepth 100000
namespace Go.Proofs.YtjeigcnaalleiaaDoor.L
open Go.Proofs.YtjeigcnaalleiaaDoor.M Go.Proofs.YtjeigcnaalleiaaDoor.F Go.Proofs

theorem repRes_fst (b : List UInt8) : ∃ e : AV, repRes b = .tup [.agg (encR ((parR b).getD zeroR)), e] ∧ e.sh = e ∧ e.mr = 0 := by
  unfold repRes
  cases parR b with
  | some r => exact ⟨_, rfl, rfl, rfl⟩
  | none => exact ⟨_, rfl, by unfold rerr; cases tapE (rdR b).s <;> rfl, by unfold rerr; cases tapE (rdR b).s <;> rfl⟩
/-- A reply copied. -/
def copR (r : Rep) : Rep := (parR (bytR r)).getD zeroR
theorem bytR_len (r : Rep) : (bytR r).length ≤ 2000 := by
  unfold bytR
  split
  · rename_i h
    obtain ⟨he, hn, ht, hc, _, _, hl8, hl, hk16, hk⟩ := rigR_all h
    have fl := flatMap_len (f := enE1) r.label fun e he => enE1_len (hl e he)
    have fk := flatMap_len (f := enK1) r.kids fun e he => enK1_len (hk e he)
    have n1 := num_len (n := r.e.toNat) (by omega)
    have n2 := num_len (n := r.n.toNat) (by omega)
    have n3 := num_len (n := r.text.length) (by omega)
    have n4 := num_len (n := r.cat.length) (by omega)
    have n5 := num_len (n := r.label.length) (by omega)
    have n6 := num_len (n := r.kids.length) (by omega)
    simp only [byR, List.length_append]
    omega
  · simp
theorem copR_run {r : Rep} (ho : okR r) : run T 55 [.agg (encR r)] [] = some (.agg (encR (copR r)), []) := by
  have h1 := bytR_run ho
  have hl := bytR_len r
  have h2 := fun h => parR_run (b := bytR r) (h := h) (by omega)
  obtain ⟨e, he, hsh, hmr⟩ := repRes_fst (bytR r)
  rw [he] at h2
  unfold copR
  generalize (parR (bytR r)).getD zeroR = q at *
  rw [run_code T_55]
  simp only [encR] at h1 h2 ⊢
  simp (maxSteps := 2000000) -implicitDefEqProofs (disch := (refine id_ok ?_; first | assumption | omega | (simp only [go_sem, List.length_map, List.length_append, List.length_take, List.length_drop, mrLL_app, keyD_i, keyD_s, keyD_b, Nat.reduceAdd, Nat.reduceEqDiff, Nat.reduceLeDiff] <;> omega) | with_unfolding_all rfl | decide)) only [go_sem, Nat.reduceAdd, Nat.reduceSub, Nat.reduceMul, Nat.reduceLeDiff, Nat.reduceEqDiff, Nat.reduceBEq, reduceIte, reduceCtorEq, c_clients_copied, h1, h2, hsh]
theorem known_run {c : Int} {h : AH} : run T 54 [.int .i64 c] h = some (.bool (decide (0 ≤ c ∧ c < 8)), h) := by
  rw [run_code T_54]
  by_cases h1 : 0 ≤ c
  · have e1 : decide (c ≥ 0) = true := decide_eq_true h1
    have e2 : decide (0 ≤ c ∧ c < 8) = decide (c < 8) := by simp [h1]
    rw [e2]
    simp -implicitDefEqProofs (disch := (refine id_ok ?_; first | assumption | omega | (simp only [go_sem, List.length_map, List.length_append, List.length_take, List.length_drop, mrLL_app, keyD_i, keyD_s, keyD_b, Nat.reduceAdd, Nat.reduceEqDiff, Nat.reduceLeDiff] <;> omega) | with_unfolding_all rfl | decide)) only [go_sem, Nat.reduceAdd, Nat.reduceSub, Nat.reduceMul, Nat.reduceLeDiff, Nat.reduceEqDiff, Nat.reduceBEq, reduceIte, reduceCtorEq, c_clients_known, e1]
  · have e1 : decide (c ≥ 0) = false := decide_eq_false h1
    have e2 : decide (0 ≤ c ∧ c < 8) = false := decide_eq_false (fun x => h1 x.1)
    rw [e2]
    simp -implicitDefEqProofs (disch := (refine id_ok ?_; first | assumption | omega | (simp only [go_sem, List.length_map, List.length_append, List.length_take, List.length_drop, mrLL_app, keyD_i, keyD_s, keyD_b, Nat.reduceAdd, Nat.reduceEqDiff, Nat.reduceLeDiff] <;> omega) | with_unfolding_all rfl | decide)) only [go_sem, Nat.reduceAdd, Nat.reduceSub, Nat.reduceMul, Nat.reduceLeDiff, Nat.reduceEqDiff, Nat.reduceBEq, reduceIte, reduceCtorEq, c_clients_known, e1]

/-! ### the lines of a book -/
abbrev Ln := Int × Option Rep   -- none: as it was made
def repL (l : Ln) : Rep := l.2.getD zeroR
def encO : Option Rep → List AV
  | none => [.int .i64 0, .int .i64 0, ow [], .str ⟨#[]⟩, ow [], ow []]
  | some r => encR r
def encL (l : Ln) : List AV := .int .i64 l.1 :: encO l.2
theorem shL_L (l : Ln) : shL (encL l) = .int .i64 l.1 :: encR (repL l) := by obtain ⟨n, o⟩ := l; cases o <;> rfl
theorem encL_0 (l : Ln) : (encL l)[0]? = some (.int .i64 l.1) := rfl
def Bk (b : List Ln) : Bx := .cells (b.flatMap encL)
theorem encL_len (l : Ln) : (encL l).length = 7 := by obtain ⟨n, o⟩ := l; cases o <;> rfl
theorem flat_len : ∀ b : List Ln, (b.flatMap encL).length = 7 * b.length
  | [] => rfl
  | l :: b => by rw [List.flatMap_cons, List.length_append, flat_len b, encL_len, List.length_cons]; omega
theorem flat_drop : ∀ (b : List Ln) (i : Nat), (b.flatMap encL).drop (i * 7) = (b.drop i).flatMap encL
  | [], i => by simp
  | l :: b, 0 => by simp
  | l :: b, i + 1 => by
    rw [List.flatMap_cons, Nat.succ_mul, Nat.add_comm, ← List.drop_drop, List.drop_left' (encL_len l), flat_drop b i]; rfl
theorem flat_take {b : List Ln} {i : Nat} (hi : i < b.length) : ((b.flatMap encL).drop (i * 7)).take 7 = encL b[i] := by
  rw [flat_drop, List.drop_eq_getElem_cons hi, List.flatMap_cons, List.take_left' (encL_len _)]
theorem flat_get {b : List Ln} {i k : Nat} (hi : i < b.length) (hk : k < 7) : (b.flatMap encL)[i * 7 + k]? = (encL b[i])[k]? := by
  rw [← flat_take hi, List.getElem?_take_of_lt hk, List.getElem?_drop]
theorem flat_ovl : ∀ {b : List Ln} {i : Nat} (x : Ln), i < b.length → ovl (b.flatMap encL) (i * 7) (encL x) = (b.set i x).flatMap encL
  | [], i, x, h => by simp at h
  | l :: b, 0, x, h => by
    simp only [ovl, Nat.zero_mul, List.set_cons_zero, List.flatMap_cons, List.take_zero, List.nil_append, Nat.zero_add, encL_len]
    rw [List.drop_left' (encL_len l)]
  | l :: b, i + 1, x, h => by
    have := flat_ovl (b := b) (i := i) x (by simpa using h)
    simp only [ovl, encL_len] at this ⊢
    rw [List.set_cons_succ, List.flatMap_cons, List.flatMap_cons, ← this]
    rw [show (i + 1) * 7 = 7 + i * 7 by omega, List.take_append, List.take_of_length_le (by rw [encL_len]; omega), encL_len, show 7 + i * 7 - 7 = i * 7 by omega]
    rw [show 7 + i * 7 + 7 = 7 + (i * 7 + 7) by omega, ← List.drop_drop, List.drop_left' (encL_len l)]
    simp [List.append_assoc]
def wrong : Int := 4
/-- A verdict. -/
def verB (b : List Ln) (c n : Int) : Int :=
  if 0 ≤ c ∧ c < 8 ∧ 1 ≤ n ∧ n ≤ 1048576 then
    match b[c.toNat]? with
    | some l => if n < l.1 then 2 else if n = l.1 then 1 else if l.1 + 1 < n then 3 else 0
    | none => 4
  else 4
end Go.Proofs.YtjeigcnaalleiaaDoor.L
