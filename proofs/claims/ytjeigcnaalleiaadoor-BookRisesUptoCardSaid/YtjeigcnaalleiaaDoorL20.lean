/- Numbers and texts as bytes: what a pen writes. -/
import Derived.Test.YtjeigcnaalleiaaDoorF0
set_option linter.all false
set_option maxRecDepth 100000
namespace Go.Proofs.YtjeigcnaalleiaaDoor.L
open Go.Proofs.YtjeigcnaalleiaaDoor.M Go.Proofs.YtjeigcnaalleiaaDoor.F Go.Proofs

theorem w8 (n : Int) : IntKind.u8.wrap n = n % 256 := by simp [IntKind.wrap, IntKind.bits, IntKind.signed]
theorem w64 {n : Int} (h1 : -9223372036854775808 ≤ n) (h2 : n ≤ 9223372036854775807) : IntKind.i64.wrap n = n := by
  simp only [IntKind.wrap, IntKind.bits, IntKind.signed]; simp; split <;> omega

/-- A number's bytes. -/
def num (n : Nat) : List UInt8 := if h : n < 128 then [UInt8.ofNat n] else UInt8.ofNat (n % 128 + 128) :: num (n / 128)
termination_by n
decreasing_by omega
/-- All but the last; what the last holds. -/
def numP (n : Nat) : List UInt8 := if h : n < 128 then [] else UInt8.ofNat (n % 128 + 128) :: numP (n / 128)
termination_by n
decreasing_by omega
def numT (n : Nat) : Nat := if h : n < 128 then n else numT (n / 128)
termination_by n
decreasing_by omega
theorem num_eq (n : Nat) : num n = numP n ++ [UInt8.ofNat (numT n)] := by
  induction n using Nat.strongRecOn with
  | _ n ih =>
    by_cases h : n < 128
    · rw [num, numP, numT]; simp [h]
    · rw [num, numP, numT]; simp only [h, dite_false, List.cons_append]; rw [ih (n / 128) (by omega)]
theorem numT_lt (n : Nat) : numT n < 128 := by
  induction n using Nat.strongRecOn with
  | _ n ih =>
    rw [numT]; split
    · assumption
    · exact ih _ (by omega)
theorem numP_len (k n : Nat) (h : n < 128 ^ (k + 1)) : (numP n).length ≤ k := by
  induction k generalizing n with
  | zero => rw [numP]; simp at h; simp [h]
  | succ k ih =>
    rw [numP]; split
    · simp
    · have : n / 128 < 128 ^ (k + 1) := Nat.div_lt_of_lt_mul (by rw [Nat.pow_succ] at h; omega)
      have := ih _ this
      simp; omega
theorem num_len {n : Nat} (h : n ≤ 4611686018427387903) : (num n).length ≤ 9 := by
  rw [num_eq]
  have := numP_len 8 n (by omega)
  simp; omega

theorem stB_ow {off : Nat} {cs : List AV} {l : List (List AV)} (h1 : Nat.ble (off + 1) cs.length = true) : storeB 1 off (ow l) (some (.cells cs)) = some (.cells (ovl cs off [ow l])) := by
  have hc : (ow l).cells = [ow l] := ow_cells
  rw [stB_some h1 (by rw [hc]; rfl) (by rw [hc]; simp only [onesL, ow_one, Bool.and_true]), hc]
attribute [go_sem high] stB_ow
theorem tm128 {n : Nat} (h : n ≤ 4611686018427387903) : IntKind.u8.wrap (IntKind.i64.wrap ((n : Int).tmod 128 + 128)) = ((UInt8.ofNat (n % 128 + 128)).toNat : Int) := by
  rw [Int.tmod_eq_emod_of_nonneg (by omega), w64 (by omega) (by omega), w8]
  simp
theorem td128 {n : Nat} (h : n ≤ 4611686018427387903) : IntKind.i64.wrap ((n : Int).tdiv 128) = ((n / 128 : Nat) : Int) := by
  rw [Int.tdiv_eq_ediv_of_nonneg (by omega), w64 (by omega) (by omega)]; omega

theorem set_same {α : Type} {l : List α} {i : Nat} {x : α} (h : l[i]? = some x) : l.set i x = l := by
  obtain ⟨hi, rfl⟩ := List.getElem?_eq_some_iff.1 h; exact List.set_getElem_self hi
theorem clone_run {l : List UInt8} {h : AH} (hn : l.length < 140737488355328) : run T 33 [.sl .sh (l.map encB)] h = some (ow (l.map encB), h) := by
  rw [run_prim T_33]
  show (if szOK 1 (l.map encB) = true ∧ _ then _ else _) = _
  rw [if_pos ⟨szOK_enc, by rw [List.length_map]; omega, by rw [List.length_map]; omega⟩]
/-- A pen's box. -/
def Pn (l : List UInt8) : Bx := .cells [ow (l.map encB)]

theorem pnum_loop {p : Nat} {h : AH} (hp : p < h.length) : ∀ (n : Nat) (l : List UInt8), n ≤ 4611686018427387903 → l.length + (numP n).length ≤ 100000000000 →
    den T (.loop l_tape_Pen_Number_0) (s_tape_Pen_Number_0 (.box p 0) (.int .i64 n)) (h.set p (Pn l)) = some (.exit 0, x_tape_Pen_Number_0 (.box p 0) (.int .i64 (numT n : Nat)), h.set p (Pn (l ++ numP n))) := by
  intro n
  induction n using Nat.strongRecOn with
  | _ n ih =>
    intro l hn hl
    rw [lp_round]
    by_cases hc : n < 128
    · have hd : decide ((n : Int) ≥ 128) = false := decide_eq_false (by omega)
      rw [numT, numP]
      simp -implicitDefEqProofs (disch := (refine id_ok ?_; first | assumption | omega | (simp only [go_sem, List.length_map, List.length_append, List.length_take, List.length_drop, mrLL_app, keyD_i, keyD_s, keyD_b, Nat.reduceAdd, Nat.reduceEqDiff, Nat.reduceLeDiff] <;> omega) | with_unfolding_all rfl | decide)) only [go_sem, Nat.reduceAdd, Nat.reduceSub, Nat.reduceMul, Nat.reduceLeDiff, Nat.reduceEqDiff, Nat.reduceBEq, reduceIte, reduceCtorEq, hc, hd, dite_true, List.append_nil]
    · have hd : decide ((n : Int) ≥ 128) = true := decide_eq_true (by omega)
      rw [numP] at hl
      rw [numT, numP]
      simp only [hc, dite_false, List.length_cons] at hl ⊢
      have := ih (n / 128) (by omega) (l ++ [UInt8.ofNat (n % 128 + 128)]) (by omega) (by simp only [List.length_append, List.length_cons, List.length_nil]; omega)
      simp only [List.map_append, Pn, List.map_cons, List.map_nil, encB, List.append_assoc, List.singleton_append] at this ⊢
      simp -implicitDefEqProofs (disch := (refine id_ok ?_; first | assumption | omega | (simp only [go_sem, List.length_map, List.length_append, List.length_take, List.length_drop, mrLL_app, keyD_i, keyD_s, keyD_b, Nat.reduceAdd, Nat.reduceEqDiff, Nat.reduceLeDiff] <;> omega) | with_unfolding_all rfl | decide)) only [go_sem, Nat.reduceAdd, Nat.reduceSub, Nat.reduceMul, Nat.reduceLeDiff, Nat.reduceEqDiff, Nat.reduceBEq, reduceIte, reduceCtorEq, hd, Pn, tm128 hn, td128 hn]
      exact this
theorem tm8 {n : Nat} (h : n < 128) : IntKind.u8.wrap (n : Int) = ((UInt8.ofNat n).toNat : Int) := by rw [w8]; simp
theorem pnum_run {p n : Nat} {l : List UInt8} {h : AH} (hp : h[p]? = some (Pn l)) (hn : n ≤ 4611686018427387903) (hl : l.length + 9 ≤ 100000000000) :
    run T 49 [.box p 0, .int .i64 n] h = some (.bool true, h.set p (Pn (l ++ num n))) := by
  have hlt : p < h.length := (List.getElem?_eq_some_iff.1 hp).1
  have hs : h.set p (Pn l) = h := set_same hp
  have h9 := numP_len 8 n (by omega)
  have hlp := pnum_loop hlt n l hn (by omega)
  rw [hs] at hlp
  have d1 : decide ((n : Int) < 0) = false := decide_eq_false (by omega)
  have d2 : decide ((n : Int) > 4611686018427387903) = false := decide_eq_false (by omega)
  have ht := numT_lt n
  rw [run_code T_49]
  rw [num_eq]
  simp -implicitDefEqProofs (disch := (refine id_ok ?_; first | assumption | omega | (simp only [go_sem, List.length_map, List.length_append, List.length_take, List.length_drop, mrLL_app, keyD_i, keyD_s, keyD_b, Nat.reduceAdd, Nat.reduceEqDiff, Nat.reduceLeDiff] <;> omega) | with_unfolding_all rfl | decide)) only [go_sem, Nat.reduceAdd, Nat.reduceSub, Nat.reduceMul, Nat.reduceLeDiff, Nat.reduceEqDiff, Nat.reduceBEq, reduceIte, reduceCtorEq, c_tape_Pen_Number, d1, d2, hlp, Pn, tm8 ht]
  simp only [List.map_append, List.map_cons, List.map_nil, encB, List.append_assoc]
theorem ptext_run {p : Nat} {l s : List UInt8} {h : AH} (hp : h[p]? = some (Pn l)) (hl : l.length + s.length + 9 ≤ 100000000000) :
    run T 78 [.box p 0, .str ⟨s.toArray⟩] h = some (.tup [], h.set p (Pn (l ++ num s.length ++ s))) := by
  have hlt : p < h.length := (List.getElem?_eq_some_iff.1 hp).1
  have h9 := num_len (n := s.length) (by omega)
  have h1 := pnum_run hp (n := s.length) (by omega) (by omega)
  have hz : ByteArray.size ⟨s.toArray⟩ = s.length := by simp [ByteArray.size]
  rw [run_code T_78]
  simp -implicitDefEqProofs (disch := (refine id_ok ?_; first | assumption | omega | (simp only [go_sem, List.length_map, List.length_append, List.length_take, List.length_drop, mrLL_app, keyD_i, keyD_s, keyD_b, Nat.reduceAdd, Nat.reduceEqDiff, Nat.reduceLeDiff] <;> omega) | with_unfolding_all rfl | decide)) only [go_sem, Nat.reduceAdd, Nat.reduceSub, Nat.reduceMul, Nat.reduceLeDiff, Nat.reduceEqDiff, Nat.reduceBEq, reduceIte, reduceCtorEq, c_tape_Pen_Text, hz, h1, Pn]
  simp only [List.map_append, List.append_assoc]
theorem pbytes_run {p : Nat} {l : List UInt8} {h : AH} (hp : h[p]? = some (Pn l)) (hl : l.length ≤ 100000000000) :
    run T 22 [.box p 0] h = some (ow (l.map encB), h) := by
  rw [run_code T_22]
  have h1 := clone_run (l := l) (h := []) (by omega)
  simp -implicitDefEqProofs (disch := (refine id_ok ?_; first | assumption | omega | (simp only [go_sem, List.length_map, List.length_append, List.length_take, List.length_drop, mrLL_app, keyD_i, keyD_s, keyD_b, Nat.reduceAdd, Nat.reduceEqDiff, Nat.reduceLeDiff] <;> omega) | with_unfolding_all rfl | decide)) only [go_sem, Nat.reduceAdd, Nat.reduceSub, Nat.reduceMul, Nat.reduceLeDiff, Nat.reduceEqDiff, Nat.reduceBEq, reduceIte, reduceCtorEq, c_tape_Pen_Bytes, hp, Pn, h1]
end Go.Proofs.YtjeigcnaalleiaaDoor.L
