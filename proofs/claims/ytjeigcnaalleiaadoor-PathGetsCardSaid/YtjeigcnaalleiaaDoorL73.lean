/- Paths: the laws of their order; put and read. -/
import Derived.Test.YtjeigcnaalleiaaDoorL72
set_option linter.all false
set_option maxRecDepth 100000
namespace Go.Proofs.YtjeigcnaalleiaaDoor.L
open Go.Proofs.YtjeigcnaalleiaaDoor.M Go.Proofs.YtjeigcnaalleiaaDoor.F Go.Proofs

/-! ### the order -/
theorem cmpI_neg (a b : Int) : cmpI a b = - cmpI b a := by
  unfold cmpI; (repeat' split) <;> omega
theorem cmpI_0 {a b : Int} : cmpI a b = 0 ↔ a = b := by
  unfold cmpI; (repeat' split) <;> constructor <;> intro h <;> omega
theorem cmpI_rng (a b : Int) : -1 ≤ cmpI a b ∧ cmpI a b ≤ 1 := by
  unfold cmpI; (repeat' split) <;> omega
theorem cmpL_neg : ∀ a b : List Int, cmpL a b = - cmpL b a
  | [], [] => rfl
  | [], _ :: _ => rfl
  | _ :: _, [] => rfl
  | x :: l, y :: m => by
    have h1 := cmpI_neg y x
    have ih := cmpL_neg l m
    simp only [cmpL]
    rw [h1]
    by_cases h : cmpI x y = 0
    · rw [if_neg (by omega), if_neg (by omega)]; exact ih
    · rw [if_pos h, if_pos (by omega)]; omega
theorem cmpL_rng : ∀ a b : List Int, -1 ≤ cmpL a b ∧ cmpL a b ≤ 1
  | [], [] => by simp [cmpL]
  | [], _ :: _ => by simp [cmpL]
  | _ :: _, [] => by simp [cmpL]
  | x :: l, y :: m => by
    have h1 := cmpI_rng x y
    have ih := cmpL_rng l m
    simp only [cmpL]
    split <;> assumption
theorem cmpL_0 : ∀ a b : List Int, cmpL a b = 0 ↔ a = b
  | [], [] => by simp [cmpL]
  | [], _ :: _ => by simp [cmpL]
  | _ :: _, [] => by simp [cmpL]
  | x :: l, y :: m => by
    have h1 := @cmpI_0 x y
    have ih := cmpL_0 l m
    simp only [cmpL, List.cons.injEq]
    by_cases h : cmpI x y = 0
    · rw [if_neg (by simp [h]), ih]; exact ⟨fun q => ⟨h1.1 h, q⟩, fun q => q.2⟩
    · rw [if_pos h]; exact ⟨fun q => absurd q h, fun q => absurd (h1.2 q.1) h⟩
theorem cmpL_app : ∀ (b c : List Int), c ≠ [] → cmpL b (b ++ c) = -1
  | [], [], h => absurd rfl h
  | [], _ :: _, _ => rfl
  | x :: b, c, h => by
    have h1 := (@cmpI_0 x x).2 rfl
    have ih := cmpL_app b c h
    simp only [List.cons_append, cmpL]
    rw [if_neg (by simp [h1])]; exact ih
theorem belP_cmp {a b : List Int} (h : belP a b = true) : cmpL b a = -1 := by
  simp only [belP, Bool.and_eq_true, decide_eq_true_eq] at h
  have : a = b ++ a.drop b.length := by
    conv => lhs; rw [← List.take_append_drop b.length a]
    rw [h.2]
  rw [this]
  exact cmpL_app _ _ fun q => by have := congrArg List.length q; simp at this; omega
theorem belP_chi {p : List Int} {n : Int} : belP (p ++ [n]) p = true := by simp [belP]
/-! ### what is read is what was written -/
theorem rdN_num : ∀ (n i acc : Nat) (rest : List UInt8), i + (numP n).length ≤ 8 → ¬ (0 < i ∧ n = 0) → rdN acc i (num n ++ rest) = (acc + n * 128 ^ i, i + (num n).length, 0) := by
  intro n
  induction n using Nat.strongRecOn with
  | _ n ih =>
    intro i acc rest hi hn
    by_cases h : n < 128
    · have hnum : num n = [UInt8.ofNat n] := by rw [num]; simp [h]
      have ht : (UInt8.ofNat n).toNat = n := by simp; omega
      rw [hnum]
      simp only [List.cons_append, List.nil_append, rdN, ht, List.length_cons, List.length_nil]
      rw [if_neg (by omega), if_neg (by omega), if_neg (by omega)]
    · have hnum : num n = UInt8.ofNat (n % 128 + 128) :: num (n / 128) := by rw [num]; simp [h]
      have hp : numP n = UInt8.ofNat (n % 128 + 128) :: numP (n / 128) := by rw [numP]; simp [h]
      have ht : (UInt8.ofNat (n % 128 + 128)).toNat = n % 128 + 128 := by simp; omega
      rw [hp, List.length_cons] at hi
      rw [hnum]
      simp only [List.cons_append, rdN, ht, List.length_cons]
      rw [if_neg (by omega), if_pos (by omega), Nat.add_sub_cancel, ih (n / 128) (by omega) (i + 1) _ rest (by omega) (by omega)]
      have : acc + n % 128 * 128 ^ i + n / 128 * 128 ^ (i + 1) = acc + n * 128 ^ i := by
        rw [Nat.pow_succ, Nat.mul_comm (128 ^ i) 128, ← Nat.mul_assoc, Nat.add_assoc, ← Nat.add_mul]
        congr 2
        omega
      rw [this]
      congr 2
      omega
theorem rdN_0 {n : Nat} {rest : List UInt8} (h : n ≤ 4611686018427387903) : rdN 0 0 (num n ++ rest) = (n, (num n).length, 0) := by
  have := numP_len 8 n (by omega)
  rw [rdN_num n 0 0 rest (by omega) (by omega)]
  simp
theorem tapN_num {n g : Nat} {rest : List UInt8} (h : n ≤ g) (hg : g ≤ 4611686018427387903) : tapN g (num n ++ rest, none) = (n, rest, none) := by
  unfold tapN
  simp only [Option.isSome_none, Bool.false_eq_true, if_false, rdN_0 (show n ≤ 4611686018427387903 by omega), ne_eq, not_true_eq_false]
  rw [if_neg (by omega)]
  simp
/-- The numbers that are read. -/
def getP : Nat → TS → List Int × TS
  | 0, s => ([], s)
  | k + 1, s => (((tapN 1048576 s).1 : Int) :: (getP k (tapN 1048576 s).2).1, (getP k (tapN 1048576 s).2).2)
theorem getP_len : ∀ (k : Nat) (s : TS), (getP k s).2.1.length ≤ s.1.length ∧ (getP k s).1.length = k
  | 0, s => by simp [getP]
  | k + 1, s => by
    have h1 := tapN_len 1048576 s
    have h2 := getP_len k (tapN 1048576 s).2
    simp only [getP, List.length_cons]; omega
theorem getP_put : ∀ (p : List Int) (rest : List UInt8), (∀ n ∈ p, 0 ≤ n ∧ n ≤ 1048576) → getP p.length (p.flatMap (fun n => num n.toNat) ++ rest, none) = (p, rest, none)
  | [], rest, h => by simp [getP]
  | n :: p, rest, h => by
    obtain ⟨h1, h2⟩ := h n (by simp)
    have ih := getP_put p rest fun x hx => h x (List.mem_cons_of_mem _ hx)
    rw [List.length_cons, getP, List.flatMap_cons, List.append_assoc, tapN_num (by omega) (by omega)]
    simp only [ih]
    rw [Int.toNat_of_nonneg h1]
/-- A number as a pen writes it: nothing, where it may not be. -/
def numA (n : Int) : List UInt8 := if 0 ≤ n ∧ n ≤ 4611686018427387903 then num n.toNat else []
theorem numA_len (n : Int) : (numA n).length ≤ 9 := by
  unfold numA; split
  · exact num_len (by omega)
  · simp
theorem pnA_run {p : Nat} {n : Int} {b : List UInt8} {h : AH} (hp : h[p]? = some (Pn b)) (hb : b.length + 9 ≤ 100000000000) :
    ∃ r, run T 49 [.box p 0, .int .i64 n] h = some (.bool r, h.set p (Pn (b ++ numA n))) := by
  unfold numA
  by_cases hn : 0 ≤ n ∧ n ≤ 4611686018427387903
  · obtain ⟨u, rfl⟩ : ∃ u : Nat, n = u := ⟨n.toNat, by omega⟩
    rw [if_pos hn, Int.toNat_natCast]
    exact ⟨true, pnum_run hp (by omega) hb⟩
  · rw [if_neg hn, List.append_nil, set_same hp]
    refine ⟨false, ?_⟩
    rw [run_code T_49]
    by_cases h0 : n < 0
    · have d1 : decide (n < 0) = true := decide_eq_true h0
      simp -implicitDefEqProofs (disch := (refine id_ok ?_; first | assumption | omega | (simp only [go_sem, List.size_toArray, List.length_map, List.length_append, List.length_take, List.length_drop, List.length_cons, List.length_nil, mrLL_app, keyD_i, keyD_s, keyD_b, Nat.reduceAdd, Nat.reduceEqDiff, Nat.reduceLeDiff] <;> omega) | with_unfolding_all rfl | decide)) only [go_sem, Nat.reduceAdd, Nat.reduceSub, Nat.reduceMul, Nat.reduceLeDiff, Nat.reduceEqDiff, Nat.reduceBEq, reduceIte, reduceCtorEq, c_tape_Pen_Number, d1]
    · have d1 : decide (n < 0) = false := decide_eq_false h0
      have d2 : decide (n > 4611686018427387903) = true := decide_eq_true (by omega)
      simp -implicitDefEqProofs (disch := (refine id_ok ?_; first | assumption | omega | (simp only [go_sem, List.size_toArray, List.length_map, List.length_append, List.length_take, List.length_drop, List.length_cons, List.length_nil, mrLL_app, keyD_i, keyD_s, keyD_b, Nat.reduceAdd, Nat.reduceEqDiff, Nat.reduceLeDiff] <;> omega) | with_unfolding_all rfl | decide)) only [go_sem, Nat.reduceAdd, Nat.reduceSub, Nat.reduceMul, Nat.reduceLeDiff, Nat.reduceEqDiff, Nat.reduceBEq, reduceIte, reduceCtorEq, c_tape_Pen_Number, d1, d2]
theorem pput_loop {p : Nat} {l : List Int} {h : AH} (hp : p < h.length) (hl : l.length ≤ 1000000) : ∀ (d i : Nat) (b : List UInt8), d + i = l.length → b.length ≤ 9 * i + 10000 →
    den T (.loop l_path_Put_0) (s_path_Put_0 (.box p 0) (.sl .sh (l.map encI)) (.int .i64 l.length) (.int .i64 i)) (h.set p (Pn b)) = some (.exit 0, x_path_Put_0, h.set p (Pn (b ++ (l.drop i).flatMap numA))) := by
  intro d
  induction d with
  | zero =>
    intro i b hd hb
    have hd' : decide ((i : Int) < l.length) = false := decide_eq_false (by omega)
    rw [List.drop_eq_nil_of_le (by omega), List.flatMap_nil, List.append_nil]
    rw [lp_round]
    simp -implicitDefEqProofs (disch := (refine id_ok ?_; first | assumption | omega | (simp only [go_sem, List.size_toArray, List.length_map, List.length_append, List.length_take, List.length_drop, List.length_cons, List.length_nil, mrLL_app, keyD_i, keyD_s, keyD_b, Nat.reduceAdd, Nat.reduceEqDiff, Nat.reduceLeDiff] <;> omega) | with_unfolding_all rfl | decide)) only [go_sem, Nat.reduceAdd, Nat.reduceSub, Nat.reduceMul, Nat.reduceLeDiff, Nat.reduceEqDiff, Nat.reduceBEq, reduceIte, reduceCtorEq, hd']
  | succ d ih =>
    intro i b hd hb
    have hib : i < l.length := by omega
    have hd' : decide ((i : Int) < l.length) = true := decide_eq_true (by omega)
    have hge : (l.map encI)[(i : Int).toNat]? = some (encI l[i]) := by simp [hib]
    have hdr : l.drop i = l[i] :: l.drop (i + 1) := List.drop_eq_getElem_cons hib
    have e7 := incP (n := i) (by omega)
    rw [hdr, List.flatMap_cons, ← List.append_assoc]
    have hn9 := numA_len l[i]
    have ih' := ih (i + 1) (b ++ numA l[i]) (by omega) (by rw [List.length_append]; omega)
    generalize l[i] = x at *
    obtain ⟨r, h1⟩ := pnA_run (n := x) (show (h.set p (Pn b))[p]? = some (Pn b) from List.getElem?_set_self hp) (by omega)
    rw [List.set_set] at h1
    simp only [encI] at hge
    rw [lp_round]
    simp (maxSteps := 2000000) -implicitDefEqProofs (disch := (refine id_ok ?_; first | assumption | omega | (simp only [go_sem, List.size_toArray, List.length_map, List.length_append, List.length_take, List.length_drop, List.length_cons, List.length_nil, mrLL_app, keyD_i, keyD_s, keyD_b, Nat.reduceAdd, Nat.reduceEqDiff, Nat.reduceLeDiff] <;> omega) | with_unfolding_all rfl | decide)) only [go_sem, Nat.reduceAdd, Nat.reduceSub, Nat.reduceMul, Nat.reduceLeDiff, Nat.reduceEqDiff, Nat.reduceBEq, reduceIte, reduceCtorEq, hd', hge, h1, e7]
    rw [List.append_assoc] at ih'
    exact ih'
def bytA (l : List Int) : List UInt8 := num l.length ++ l.flatMap numA
theorem pput_run {p : Nat} {l : List Int} {b : List UInt8} {h : AH} (hp : h[p]? = some (Pn b)) (hl : l.length ≤ 1000000) (hb : b.length ≤ 1000) :
    run T 21 [.box p 0, .sl .sh (l.map encI)] h = some (.tup [], h.set p (Pn (b ++ bytA l))) := by
  have hlt : p < h.length := (List.getElem?_eq_some_iff.1 hp).1
  have h9 := num_len (n := l.length) (by omega)
  have h1 := pnum_run hp (n := l.length) (by omega) (by omega)
  have h2 := pput_loop (h := h) hlt hl l.length 0 (b ++ num l.length) (by omega) (by rw [List.length_append]; omega)
  simp only [show ((0 : Nat) : Int) = 0 from rfl, List.drop_zero] at h2
  rw [run_code T_21]
  unfold bytA
  rw [← List.append_assoc]
  simp (maxSteps := 2000000) -implicitDefEqProofs (disch := (refine id_ok ?_; first | assumption | omega | (simp only [go_sem, List.size_toArray, List.length_map, List.length_append, List.length_take, List.length_drop, List.length_cons, List.length_nil, mrLL_app, keyD_i, keyD_s, keyD_b, Nat.reduceAdd, Nat.reduceEqDiff, Nat.reduceLeDiff] <;> omega) | with_unfolding_all rfl | decide)) only [go_sem, Nat.reduceAdd, Nat.reduceSub, Nat.reduceMul, Nat.reduceLeDiff, Nat.reduceEqDiff, Nat.reduceBEq, reduceIte, reduceCtorEq, c_path_Put, List.length_map, h1, h2]
theorem bytA_len (l : List Int) (h : l.length ≤ 4611686018427387903) : (bytA l).length ≤ 9 + 9 * l.length := by
  have h9 := num_len h
  have : ∀ l : List Int, (l.flatMap numA).length ≤ 9 * l.length := by
    intro l
    induction l with
    | nil => simp
    | cons a l ih => have := numA_len a; simp only [List.flatMap_cons, List.length_append, List.length_cons]; omega
  have := this l
  unfold bytA
  rw [List.length_append]; omega
theorem pget_loop {t : Nat} {h : AH} (ht : t < h.length) {n : Nat} (hn : n ≤ 1000) : ∀ (d i : Nat) (s : TS) (a : List Int), d + i = n → s.1.length ≤ 9223372036854775806 → a.length ≤ i →
    den T (.loop l_path_Get_0) (s_path_Get_0 (.box t 0) (ow (a.map encI)) (.int .i64 n) (.int .i64 i)) (h.set t (Tb s)) = some (.exit 0, x_path_Get_0 (.box t 0) (ow ((a ++ (getP d s).1).map encI)), h.set t (Tb (getP d s).2)) := by
  intro d
  induction d with
  | zero =>
    intro i s a hd hs ha
    have hd' : decide ((i : Int) < n) = false := decide_eq_false (by omega)
    simp only [getP, List.append_nil]
    rw [lp_round]
    simp -implicitDefEqProofs (disch := (refine id_ok ?_; first | assumption | omega | (simp only [go_sem, List.size_toArray, List.length_map, List.length_append, List.length_take, List.length_drop, List.length_cons, List.length_nil, mrLL_app, keyD_i, keyD_s, keyD_b, Nat.reduceAdd, Nat.reduceEqDiff, Nat.reduceLeDiff] <;> omega) | with_unfolding_all rfl | decide)) only [go_sem, Nat.reduceAdd, Nat.reduceSub, Nat.reduceMul, Nat.reduceLeDiff, Nat.reduceEqDiff, Nat.reduceBEq, reduceIte, reduceCtorEq, hd']
  | succ d ih =>
    intro i s a hd hs ha
    have hd' : decide ((i : Int) < n) = true := decide_eq_true (by omega)
    have l1 := tapN_len 1048576 s
    have t1 := tnum_run (g := 1048576) (s := s) (show (h.set t (Tb s))[t]? = some (Tb s) from List.getElem?_set_self ht) hs
    rw [List.set_set] at t1
    simp only [show ((1048576 : Nat) : Int) = 1048576 from rfl] at t1
    have e7 := incP (n := i) (by omega)
    have ih' := ih (i + 1) (tapN 1048576 s).2 (a ++ [((tapN 1048576 s).1 : Int)]) (by omega) (by omega) (by simp; omega)
    simp only [getP]
    generalize tapN 1048576 s = x at *
    have e1 : (a ++ [(x.1 : Int)]).map encI = a.map encI ++ [[.int .i64 (x.1 : Int)]] := by simp [encI]
    rw [List.append_assoc, List.singleton_append] at ih'
    rw [e1] at ih'
    rw [lp_round]
    simp (maxSteps := 2000000) -implicitDefEqProofs (disch := (refine id_ok ?_; first | assumption | omega | (simp only [go_sem, List.size_toArray, List.length_map, List.length_append, List.length_take, List.length_drop, List.length_cons, List.length_nil, mrLL_app, keyD_i, keyD_s, keyD_b, Nat.reduceAdd, Nat.reduceEqDiff, Nat.reduceLeDiff] <;> omega) | with_unfolding_all rfl | decide)) only [go_sem, Nat.reduceAdd, Nat.reduceSub, Nat.reduceMul, Nat.reduceLeDiff, Nat.reduceEqDiff, Nat.reduceBEq, reduceIte, reduceCtorEq, hd', t1, e7]
    exact ih'
def gtP (s : TS) : List Int × Int × TS :=
  if (getP (tapN 6 s).1 (tapN 6 s).2).2.2 = none then ((getP (tapN 6 s).1 (tapN 6 s).2).1, 0, (getP (tapN 6 s).1 (tapN 6 s).2).2) else ([], 10, (getP (tapN 6 s).1 (tapN 6 s).2).2)
theorem pget_run {t : Nat} {s : TS} {h : AH} (ht : h[t]? = some (Tb s)) (hs : s.1.length ≤ 9223372036854775806) :
    run T 9 [.box t 0] h = some (.tup [ow ((gtP s).1.map encI), .int .i64 (gtP s).2.1], h.set t (Tb (gtP s).2.2)) := by
  have hlt : t < h.length := (List.getElem?_eq_some_iff.1 ht).1
  have t1 := tnum_run (g := 6) ht hs
  simp only [show ((6 : Nat) : Int) = 6 from rfl] at t1
  have l1 := tapN_len 6 s
  have l2 := tapN_le 6 s
  have h2 := pget_loop (h := h) hlt (n := (tapN 6 s).1) (by omega) (tapN 6 s).1 0 (tapN 6 s).2 [] (by omega) (by omega) (by simp)
  simp only [show ((0 : Nat) : Int) = 0 from rfl, List.nil_append, List.map_nil] at h2
  rw [run_code T_9]
  unfold gtP
  generalize getP (tapN 6 s).1 (tapN 6 s).2 = r at *
  have h3 := terr_run (show (h.set t (Tb r.2))[t]? = some (Tb r.2) from List.getElem?_set_self hlt)
  obtain ⟨a, b, e⟩ := r
  simp only at h2 h3 ⊢
  cases e with
  | none =>
    rw [if_pos rfl]
    simp (maxSteps := 2000000) -implicitDefEqProofs (disch := (refine id_ok ?_; first | assumption | omega | (simp only [go_sem, List.size_toArray, List.length_map, List.length_append, List.length_take, List.length_drop, List.length_cons, List.length_nil, mrLL_app, keyD_i, keyD_s, keyD_b, Nat.reduceAdd, Nat.reduceEqDiff, Nat.reduceLeDiff] <;> omega) | with_unfolding_all rfl | decide)) only [go_sem, Nat.reduceAdd, Nat.reduceSub, Nat.reduceMul, Nat.reduceLeDiff, Nat.reduceEqDiff, Nat.reduceBEq, reduceIte, reduceCtorEq, c_path_Get, t1, h2, h3]
  | some c =>
    rw [if_neg (by simp)]
    simp (maxSteps := 2000000) -implicitDefEqProofs (disch := (refine id_ok ?_; first | assumption | omega | (simp only [go_sem, List.size_toArray, List.length_map, List.length_append, List.length_take, List.length_drop, List.length_cons, List.length_nil, mrLL_app, keyD_i, keyD_s, keyD_b, Nat.reduceAdd, Nat.reduceEqDiff, Nat.reduceLeDiff] <;> omega) | with_unfolding_all rfl | decide)) only [go_sem, Nat.reduceAdd, Nat.reduceSub, Nat.reduceMul, Nat.reduceLeDiff, Nat.reduceEqDiff, Nat.reduceBEq, reduceIte, reduceCtorEq, c_path_Get, t1, h2, h3, List.map_nil]
theorem flat_num : ∀ (p : List Int), (∀ n ∈ p, 0 ≤ n ∧ n ≤ 1048576) → p.flatMap numA = p.flatMap fun n => num n.toNat
  | [], _ => rfl
  | n :: p, h => by
    obtain ⟨h1, h2⟩ := h n (by simp)
    rw [List.flatMap_cons, List.flatMap_cons, flat_num p fun x hx => h x (List.mem_cons_of_mem _ hx)]
    congr 1
    unfold numA
    rw [if_pos ⟨h1, by omega⟩]
/-- What was put is got. -/
theorem gtP_put {p : List Int} (h : rigP p = true) (rest : List UInt8) : gtP (bytA p ++ rest, none) = (p, 0, rest, none) := by
  obtain ⟨h6, hk⟩ := rigP_all h
  have h1 : tapN 6 (bytA p ++ rest, none) = (p.length, p.flatMap numA ++ rest, none) := by
    unfold bytA
    rw [List.append_assoc]
    exact tapN_num h6 (by omega)
  unfold gtP
  rw [h1]
  simp only
  rw [flat_num p hk, getP_put p rest hk]
  simp
end Go.Proofs.YtjeigcnaalleiaaDoor.L
