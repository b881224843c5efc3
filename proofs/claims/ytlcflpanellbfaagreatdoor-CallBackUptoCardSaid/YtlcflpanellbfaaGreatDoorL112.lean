/- Calls: what is put is got; what is read without a fault is what was put. -/
import Derived.Test.YtlcflpanellbfaaGreatDoorL109
set_option linter.all false
set_option maxRecDepth 100000
set_option maxHeartbeats 32000000
namespace Go.Proofs.YtlcflpanellbfaaGreatDoor.L
open Go.Proofs.YtlcflpanellbfaaGreatDoor.M Go.Proofs.YtlcflpanellbfaaGreatDoor.F Go.Proofs

/-! ### put, got -/
theorem gtS_put {c o : Cal} {p : Int} {rest : List UInt8} (hp : 0 ≤ p ∧ p ≤ 10) (hr : rgP c p = true) : gtS (o, byP c p ++ rest, none) p = (plnS c o p, rest, none) := by
  rcases p_cases hp with rfl | rfl | rfl | rfl | rfl | rfl | rfl | rfl | rfl | rfl | rfl
  all_goals simp only [rgP, byP, gtS, plnS, Int.reduceEq, if_true, if_false, reduceIte] at hr ⊢
  · rw [gtP_put hr rest]
  · rw [bytLb, List.append_assoc, getL_put hr]
  · have h := okN_iff.1 hr
    rw [tapN_num (n := c.n.toNat) (by omega) (by omega)]
    simp only [Int.toNat_of_nonneg h.1]
  · have h := okN_iff.1 hr
    rw [tapN_num (n := c.m.toNat) (by omega) (by omega)]
    simp only [Int.toNat_of_nonneg h.1]
  · rw [bytLb, List.append_assoc, getL_put hr]
  · rw [getO_put hr rest]
  · have h := of_decide_eq_true hr
    rw [List.append_assoc, tapT_txt (by omega) (by omega)]
  · have h := rigC_len hr
    rw [List.append_assoc, tapT_txt (by omega) (by omega)]
  · rw [gtP_put hr rest]
  · unfold numF
    cases hw : c.write
    · simp only [Bool.false_eq_true, if_false]
      rw [tapN_num (n := 0) (by omega) (by omega)]; rfl
    · simp only [if_true]
      rw [tapN_num (n := 1) (by omega) (by omega)]; rfl
  · simp only [Bool.and_eq_true, decide_eq_true_eq] at hr
    rw [tapN_num (n := (c.n + 1048576).toNat) (by omega) (by omega)]
    simp only [Int.toNat_of_nonneg (show 0 ≤ c.n + 1048576 by omega), show c.n + 1048576 - 1048576 = c.n by omega]
theorem gfold_put {c : Cal} : ∀ (ps : List Int) (o : Cal) (rest : List UInt8), (∀ p ∈ ps, 0 ≤ p ∧ p ≤ 10) → (∀ p ∈ ps, rgP c p = true) → ps.foldl gtS (o, ps.flatMap (byP c) ++ rest, none) = (ps.foldl (plnS c) o, rest, none)
  | [], o, rest, _, _ => rfl
  | p :: ps, o, rest, h1, h2 => by
    rw [List.flatMap_cons, List.append_assoc, List.foldl_cons, List.foldl_cons, gtS_put (h1 p (by simp)) (h2 p (by simp))]
    exact gfold_put ps _ rest (fun q hq => h1 q (by simp [hq])) (fun q hq => h2 q (by simp [hq]))
theorem getCal_put {c : Cal} (h : rigCal c = true) (rest : List UInt8) : getCal (bytCal c ++ rest, none) = (c, 0, rest, none) := by
  obtain ⟨ho, hpl, hg⟩ := rigCal_all h
  have hb : bytCal c = num c.op.toNat ++ (pL c.op).flatMap (byP c) := by unfold bytCal; rw [if_pos h]
  have hn : tapN 20 (bytCal c ++ rest, none) = (c.op.toNat, (pL c.op).flatMap (byP c) ++ rest, none) := by
    rw [hb, List.append_assoc]; exact tapN_num (by omega) (by omega)
  have hrd : rdCal (bytCal c ++ rest, none) = (c, rest, none) := by
    unfold rdCal
    rw [hn]
    simp only [Int.toNat_of_nonneg ho.1]
    rw [gfold_put _ _ _ (pL_rng _).2 hg]
    unfold plC at hpl
    rw [hpl]
  unfold getCal
  rw [hrd]
  simp only [List.length_append]
  rw [if_pos ⟨rfl, by omega⟩]
/-! ### read, put -/
theorem num_pos (n : Nat) : 0 < (num n).length := by rw [num_eq]; simp
theorem num0_len : (num 0).length = 1 := by rw [num]; rfl
theorem getP_none : ∀ (k : Nat) {s : TS}, (getP k s).2.2 = none → s.2 = none
  | 0, s, h => h
  | k + 1, s, h => tapN_none (getP_none k h)
theorem getP_inv : ∀ (k : Nat) {s : TS}, (getP k s).2.2 = none → s.1 = (getP k s).1.flatMap numA ++ (getP k s).2.1 ∧ (getP k s).1.length = k
  | 0, s, h => ⟨rfl, rfl⟩
  | k + 1, s, h => by
    simp only [getP] at h ⊢
    obtain ⟨h1, h2⟩ := getP_inv k h
    have h3 := tapN_inv (getP_none k h)
    have h4 := tapN_le 1048576 s
    refine ⟨?_, by rw [List.length_cons, h2]⟩
    rw [List.flatMap_cons, List.append_assoc, ← h1]
    unfold numA
    rw [if_pos ⟨by omega, by omega⟩, Int.toNat_natCast]
    exact h3
theorem gtP_inv {s : TS} (h : (gtP s).2.2.2 = none) : s.2 = none ∧ s.1 = bytA (gtP s).1 ++ (gtP s).2.2.1 := by
  unfold gtP at h ⊢
  split at h
  · rename_i h0
    rw [if_pos h0]
    obtain ⟨h1, h2⟩ := getP_inv _ h0
    have h3 := getP_none _ h0
    refine ⟨tapN_none h3, ?_⟩
    simp only [bytA]
    rw [h2, List.append_assoc, ← h1]
    exact tapN_inv h3
  · rename_i h0; exact absurd h h0
theorem getO_inv {s : TS} (h : (getO s).2.2.2 = none) : s.2 = none ∧ (s.1 = bytO (getO s).1 ++ (getO s).2.2.1 ∨ (bytO (getO s).1).length + (getO s).2.2.1.length < s.1.length) := by
  have hq : (getSs (tapN 8 s).1 (tapN 8 s).2).2.2 = none := by
    unfold getO at h; dsimp only at h; split at h <;> exact h
  obtain ⟨h1, h2⟩ := getSs_inv _ hq
  have h3 := getSs_none _ hq
  have h4 := tapN_inv h3
  refine ⟨tapN_none h3, ?_⟩
  unfold getO
  dsimp only
  split
  · left
    simp only [bytO]
    rw [h2, List.append_assoc, ← h1]
    exact h4
  · rename_i hn
    right
    have hk : (tapN 8 s).1 ≠ 0 := fun z => by
      apply hn
      rw [z]
      refine ⟨?_, ?_⟩
      · rw [z] at hq; rw [hq]; rfl
      · rfl
    simp only [bytO, List.length_nil, List.flatMap_nil, List.append_nil, num0_len]
    have a1 := congrArg List.length h4
    have a2 := congrArg List.length h1
    have a3 := num_pos (tapN 8 s).1
    rw [List.length_append] at a1 a2
    have a4 : 0 < ((getSs (tapN 8 s).1 (tapN 8 s).2).1.flatMap enS1).length := by
      cases hl : (getSs (tapN 8 s).1 (tapN 8 s).2).1 with
      | nil => rw [hl] at h2; exact absurd h2.symm hk
      | cons c l =>
        have := num_pos c.length
        rw [List.flatMap_cons, List.length_append, enS1, List.length_append]; omega
    omega
theorem getL_inv2 {s : TS} (h : (getL s).2.2.2 = none) : s.2 = none ∧ (s.1 = bytLb (getL s).1 ++ (getL s).2.2.1 ∨ (bytLb (getL s).1).length + (getL s).2.2.1.length < s.1.length) := by
  have hq : (getEs (tapN 8 s).1 (tapN 8 s).2).2.2 = none := by
    unfold getL at h; dsimp only at h; split at h <;> exact h
  obtain ⟨h1, h2⟩ := getEs_inv _ hq
  have h3 := getEs_none _ hq
  have h4 := tapN_inv h3
  refine ⟨tapN_none h3, ?_⟩
  unfold getL
  dsimp only
  split
  · left
    simp only [bytLb]
    rw [h2, List.append_assoc, ← h1]
    exact h4
  · rename_i hn
    right
    have hk : (tapN 8 s).1 ≠ 0 := fun z => by
      apply hn
      rw [z]
      refine ⟨?_, ?_⟩
      · rw [z] at hq; rw [hq]; rfl
      · rfl
    simp only [bytLb, List.length_nil, List.flatMap_nil, List.append_nil, num0_len]
    have a1 := congrArg List.length h4
    have a2 := congrArg List.length h1
    have a3 := num_pos (tapN 8 s).1
    rw [List.length_append] at a1 a2
    have a4 : 0 < ((getEs (tapN 8 s).1 (tapN 8 s).2).1.flatMap enE1).length := by
      cases hl : (getEs (tapN 8 s).1 (tapN 8 s).2).1 with
      | nil => rw [hl] at h2; exact absurd h2.symm hk
      | cons c l =>
        have := num_pos c.1.length
        rw [List.flatMap_cons, List.length_append, enE1, List.length_append, List.length_append]; omega
    omega
theorem gtS_inv {x : Cal × TS} {p : Int} (hp : 0 ≤ p ∧ p ≤ 10) (h : (gtS x p).2.2 = none) : x.2.2 = none ∧ (x.2.1 = byP (gtS x p).1 p ++ (gtS x p).2.1 ∨ (byP (gtS x p).1 p).length + (gtS x p).2.1.length < x.2.1.length) := by
  rcases p_cases hp with rfl | rfl | rfl | rfl | rfl | rfl | rfl | rfl | rfl | rfl | rfl
  all_goals simp only [byP, gtS, Int.reduceEq, if_true, if_false, reduceIte] at h ⊢
  · exact ⟨(gtP_inv h).1, .inl (gtP_inv h).2⟩
  · exact getL_inv2 h
  · exact ⟨tapN_none h, .inl (tapN_inv h)⟩
  · exact ⟨tapN_none h, .inl (tapN_inv h)⟩
  · exact getL_inv2 h
  · exact getO_inv h
  · exact ⟨tapT_none h, .inl (by rw [List.append_assoc]; exact tapT_inv h)⟩
  · exact ⟨tapT_none h, .inl (by rw [List.append_assoc]; exact tapT_inv h)⟩
  · exact ⟨(gtP_inv h).1, .inl (gtP_inv h).2⟩
  · refine ⟨tapN_none h, .inl ?_⟩
    have h1 := tapN_inv h
    have h2 := tapN_le 1 x.2
    have h3 : (if (((tapN 1 x.2).1 : Nat) : Int) == 1 then 1 else 0) = (tapN 1 x.2).1 := by
      rcases Nat.le_one_iff_eq_zero_or_eq_one.1 h2 with e | e <;> rw [e] <;> rfl
    unfold numF
    rw [h3]
    exact h1
  · refine ⟨tapN_none h, .inl ?_⟩
    rw [show ((((tapN 2097152 x.2).1 : Nat) : Int) - 1048576 + 1048576).toNat = (tapN 2097152 x.2).1 by omega]
    exact tapN_inv h
def fldP (p : Int) : Int := if p = 10 then 2 else p
theorem gtS_keep {x : Cal × TS} {p q : Int} (hp : 0 ≤ p ∧ p ≤ 10) (hq : 0 ≤ q ∧ q ≤ 10) (h : fldP q ≠ fldP p) : byP (gtS x q).1 p = byP x.1 p := by
  rcases p_cases hq with rfl | rfl | rfl | rfl | rfl | rfl | rfl | rfl | rfl | rfl | rfl
  all_goals
    simp only [gtS, Int.reduceEq, if_true, if_false, reduceIte]
    rcases p_cases hp with rfl | rfl | rfl | rfl | rfl | rfl | rfl | rfl | rfl | rfl | rfl
  all_goals first | (simp only [byP, Int.reduceEq, if_true, if_false, reduceIte]; done) | exact absurd rfl h
theorem gfold_keep {p : Int} (hp : 0 ≤ p ∧ p ≤ 10) : ∀ (ps : List Int) (x : Cal × TS), (∀ q ∈ ps, 0 ≤ q ∧ q ≤ 10) → (∀ q ∈ ps, fldP q ≠ fldP p) → byP (ps.foldl gtS x).1 p = byP x.1 p
  | [], x, _, _ => rfl
  | q :: ps, x, h1, h2 => by
    rw [List.foldl_cons, gfold_keep hp ps _ (fun r hr => h1 r (by simp [hr])) (fun r hr => h2 r (by simp [hr])), gtS_keep hp (h1 q (by simp)) (h2 q (by simp))]
def disP : List Int → Bool
  | [] => true
  | p :: ps => ps.all (fun q => fldP q != fldP p) && disP ps
theorem disP_pL (op : Int) : disP (pL op) = true := by
  by_cases hop : 2 ≤ op ∧ op ≤ 20
  · rcases op_cases hop with rfl | rfl | rfl | rfl | rfl | rfl | rfl | rfl | rfl | rfl | rfl | rfl | rfl | rfl | rfl | rfl | rfl | rfl | rfl <;> decide
  · rw [pL_none hop]; rfl
theorem gfold_inv : ∀ (ps : List Int) (x : Cal × TS), (∀ q ∈ ps, 0 ≤ q ∧ q ≤ 10) → disP ps = true → (ps.foldl gtS x).2.2 = none → x.2.2 = none ∧ (x.2.1 = ps.flatMap (byP (ps.foldl gtS x).1) ++ (ps.foldl gtS x).2.1 ∨ (ps.flatMap (byP (ps.foldl gtS x).1)).length + (ps.foldl gtS x).2.1.length < x.2.1.length)
  | [], x, _, _, h => ⟨h, .inl rfl⟩
  | p :: ps, x, h1, h2, h => by
    simp only [disP, Bool.and_eq_true, List.all_eq_true, bne_iff_ne] at h2
    rw [List.foldl_cons] at h ⊢
    obtain ⟨i1, i2⟩ := gfold_inv ps (gtS x p) (fun q hq => h1 q (by simp [hq])) h2.2 h
    obtain ⟨j1, j2⟩ := gtS_inv (h1 p (by simp)) i1
    have hk := gfold_keep (h1 p (by simp)) ps (gtS x p) (fun q hq => h1 q (by simp [hq])) h2.1
    rw [List.flatMap_cons, hk]
    refine ⟨j1, ?_⟩
    rcases i2 with i2 | i2
    · rcases j2 with j2 | j2
      · left
        rw [List.append_assoc, ← i2]; exact j2
      · right
        have := congrArg List.length i2
        rw [List.length_append] at this ⊢; omega
    · right
      rcases j2 with j2 | j2
      · have := congrArg List.length j2
        rw [List.length_append] at this ⊢; omega
      · rw [List.length_append]; omega
theorem gtS_op (x : Cal × TS) (p : Int) : (gtS x p).1.op = x.1.op := by
  by_cases h0 : p = 0
  · rw [gtS, if_pos h0]
  by_cases h1 : p = 1
  · rw [gtS, if_neg h0, if_pos h1]
  by_cases h2 : p = 2
  · rw [gtS, if_neg h0, if_neg h1, if_pos h2]
  by_cases h3 : p = 3
  · rw [gtS, if_neg h0, if_neg h1, if_neg h2, if_pos h3]
  by_cases h4 : p = 4
  · rw [gtS, if_neg h0, if_neg h1, if_neg h2, if_neg h3, if_pos h4]
  by_cases h5 : p = 5
  · rw [gtS, if_neg h0, if_neg h1, if_neg h2, if_neg h3, if_neg h4, if_pos h5]
  by_cases h6 : p = 6
  · rw [gtS, if_neg h0, if_neg h1, if_neg h2, if_neg h3, if_neg h4, if_neg h5, if_pos h6]
  by_cases h7 : p = 7
  · rw [gtS, if_neg h0, if_neg h1, if_neg h2, if_neg h3, if_neg h4, if_neg h5, if_neg h6, if_pos h7]
  by_cases h8 : p = 8
  · rw [gtS, if_neg h0, if_neg h1, if_neg h2, if_neg h3, if_neg h4, if_neg h5, if_neg h6, if_neg h7, if_pos h8]
  by_cases h9 : p = 9
  · rw [gtS, if_neg h0, if_neg h1, if_neg h2, if_neg h3, if_neg h4, if_neg h5, if_neg h6, if_neg h7, if_neg h8, if_pos h9]
  by_cases h10 : p = 10
  · rw [gtS, if_neg h0, if_neg h1, if_neg h2, if_neg h3, if_neg h4, if_neg h5, if_neg h6, if_neg h7, if_neg h8, if_neg h9, if_pos h10]
  rw [gtS, if_neg h0, if_neg h1, if_neg h2, if_neg h3, if_neg h4, if_neg h5, if_neg h6, if_neg h7, if_neg h8, if_neg h9, if_neg h10]
theorem gfold_op : ∀ (ps : List Int) (x : Cal × TS), (ps.foldl gtS x).1.op = x.1.op
  | [], x => rfl
  | p :: ps, x => by rw [List.foldl_cons, gfold_op ps, gtS_op]
/-- What is parsed is right, and its bytes are those. -/
theorem parCal_inv {b : List UInt8} {c : Cal} (h : parCal b = some c) : rigCal c = true ∧ bytCal c = b := by
  unfold parCal at h
  split at h <;> try (cases h; done)
  rename_i h0
  obtain ⟨h1, h2⟩ := h0
  simp only [Option.some.injEq] at h
  unfold getCal at h1 h2 h
  split at h1 <;> try (simp at h1; done)
  rename_i hg
  rw [if_pos hg] at h2 h
  obtain ⟨g1, g2⟩ := hg
  simp only at h h2
  have hn : (rdCal (b, none)).2.2 = none := by
    cases e : (rdCal (b, none)).2.2 with
    | none => rfl
    | some v => rw [e] at g1; cases g1
  have he : (rdCal (b, none)).2.1 = [] := by
    unfold tapE at h2
    rw [hn] at h2
    by_cases z : (rdCal (b, none)).2.1 = []
    · exact z
    · simp [z] at h2
  have hop : c.op = ((tapN 20 (b, none)).1 : Nat) := by rw [← h]; unfold rdCal; rw [gfold_op]; rfl
  have hinv := gfold_inv (pL ((tapN 20 (b, none)).1 : Nat)) (zeroC ((tapN 20 (b, none)).1 : Nat), (tapN 20 (b, none)).2) (pL_rng _).2 (disP_pL _) hn
  obtain ⟨j1, j2⟩ := hinv
  have hrd : (pL ((tapN 20 (b, none)).1 : Nat)).foldl gtS (zeroC ((tapN 20 (b, none)).1 : Nat), (tapN 20 (b, none)).2) = rdCal (b, none) := rfl
  rw [hrd, h, he, ← hop] at j2
  have h5 := tapN_inv j1
  simp only at h5
  rw [he, h] at g2
  simp only [List.length_nil, Nat.sub_zero, Nat.add_zero, List.append_nil] at g2 j2
  have hl := congrArg List.length h5
  rw [List.length_append] at hl
  have hpos := num_pos (tapN 20 (b, none)).1
  have hr : rigCal c = true := by
    cases hr : rigCal c with
    | true => rfl
    | false =>
      unfold bytCal at g2
      rw [hr] at g2
      have hb0 : b.length = 0 := g2
      omega
  refine ⟨hr, ?_⟩
  have hby : bytCal c = num c.op.toNat ++ (pL c.op).flatMap (byP c) := by unfold bytCal; rw [if_pos hr]
  have hopn : c.op.toNat = (tapN 20 (b, none)).1 := by rw [hop]; simp
  rcases j2 with j2 | j2
  · rw [hby, hopn, ← j2]; exact h5.symm
  · rw [hby, List.length_append, hopn] at g2
    omega
end Go.Proofs.YtlcflpanellbfaaGreatDoor.L

/- CallBack: what its function comes to. -/
set_option linter.all false
set_option maxRecDepth 100000
set_option maxHeartbeats 32000000
namespace Go.Proofs.YtlcflpanellbfaaGreatDoor.L
open Go.Proofs.YtlcflpanellbfaaGreatDoor.M Go.Proofs.YtlcflpanellbfaaGreatDoor.F Go.Proofs

def exC : Cal := ⟨12, [1, 2], [], [], [], 0, 0, [], [], [], false⟩
theorem num_lt {n : Nat} (h : n < 128) : num n = [UInt8.ofNat n] := by rw [num]; simp [h]
theorem exC_ok : okC exC := by
  have h : shS exC.own := fun e he => by cases he
  exact ⟨by simp [exC], by simp [exC], by simp [exC], by simp [exC], by simp [exC], by simp [exC], (fun e he => by cases he), (fun e he => by cases he), h, by simp [exC]⟩
theorem ex_right : rigCal exC = true := by
  have h1 := right_run exC_ok
  have h2 : run U 9 [.agg (encC exC)] [] = some (.bool true, []) := run_of (n := 300) (by kernel_rfl)
  rw [h1] at h2
  simpa using h2
theorem ex_bytes : bytCal exC = [12, 2, 1, 2] := by
  unfold bytCal
  rw [if_pos ex_right]
  simp [exC, pL, byP, bytA, numA, num_lt]
theorem ex_par : parCal [12, 2, 1, 2] = some exC := by
  have h := getCal_put ex_right []
  rw [List.append_nil, ex_bytes] at h
  unfold parCal
  rw [h]; rfl
theorem bad_par : parCal [12, 7] = none ∧ resCal [12, 7] = .tup [.agg (encC (zeroC 0)), fT callB 10 (er (some 13))] := by
  have h1 : tapN 20 ([12, 7], none) = (12, [7], none) := rfl
  have h2 : gtP ([7], none) = ([], 10, [7], some 13) := rfl
  have h3 : rdCal ([12, 7], none) = (zeroC 12, [7], some 13) := by
    unfold rdCal
    rw [h1]
    show [(0 : Int)].foldl gtS (zeroC 12, [7], none) = _
    rw [List.foldl_cons, List.foldl_nil]
    show ({ zeroC 12 with at_ := (gtP ([7], none)).1 }, (gtP ([7], none)).2.2) = _
    rw [h2]; rfl
  have h4 : getCal ([12, 7], none) = (zeroC 0, 10, [7], some 13) := by
    unfold getCal
    rw [h3, if_neg (by simp)]
  have h5 : parCal [12, 7] = none := by
    unfold parCal
    rw [h4, if_neg (by simp)]
  refine ⟨h5, ?_⟩
  unfold resCal
  rw [h5, h4]; rfl
theorem fp1 {H : AH} : run T 20 [fT callB 10 (er (some 13))] H = some (.int .i64 10, H) := by
  rw [run_code T_20]
  simp (maxSteps := 4000000) -implicitDefEqProofs (disch := (refine id_ok ?_; first | assumption | omega | (simp only [go_sem, List.size_toArray, List.length_map, List.length_append, List.length_take, List.length_drop, List.length_cons, List.length_nil, mrLL_app, keyD_i, keyD_s, keyD_b, Nat.reduceAdd, Nat.reduceEqDiff, Nat.reduceLeDiff] <;> omega) | with_unfolding_all rfl | decide)) only [go_sem, Nat.reduceAdd, Nat.reduceSub, Nat.reduceMul, Nat.reduceLeDiff, Nat.reduceEqDiff, Nat.reduceBEq, reduceIte, reduceCtorEq, c_fault_Code, fT]
theorem fp2 {H : AH} : run T 21 [fT callB 10 (er (some 13))] H = some (.str callB, H) := by
  rw [run_code T_21]
  simp (maxSteps := 4000000) -implicitDefEqProofs (disch := (refine id_ok ?_; first | assumption | omega | (simp only [go_sem, List.size_toArray, List.length_map, List.length_append, List.length_take, List.length_drop, List.length_cons, List.length_nil, mrLL_app, keyD_i, keyD_s, keyD_b, Nat.reduceAdd, Nat.reduceEqDiff, Nat.reduceLeDiff] <;> omega) | with_unfolding_all rfl | decide)) only [go_sem, Nat.reduceAdd, Nat.reduceSub, Nat.reduceMul, Nat.reduceLeDiff, Nat.reduceEqDiff, Nat.reduceBEq, reduceIte, reduceCtorEq, c_fault_Place, fT]
theorem fp3 {H : AH} : run T 22 [fT callB 10 (er (some 13)), .int .i64 13] H = some (.bool true, H) := by
  rw [run_code T_22]
  have h : ∀ H : AH, run T 60 [AV.iface 92 (AV.ref [AV.str callB, AV.int IntKind.i64 10, er (some 13)]), AV.iface 40 (AV.int IntKind.i64 13)] H = some (.bool true, H) := fun H => by
    rw [run_prim T_60]; rfl
  simp (maxSteps := 4000000) -implicitDefEqProofs (disch := (refine id_ok ?_; first | assumption | omega | (simp only [go_sem, List.size_toArray, List.length_map, List.length_append, List.length_take, List.length_drop, List.length_cons, List.length_nil, mrLL_app, keyD_i, keyD_s, keyD_b, Nat.reduceAdd, Nat.reduceEqDiff, Nat.reduceLeDiff] <;> omega) | with_unfolding_all rfl | decide)) only [go_sem, Nat.reduceAdd, Nat.reduceSub, Nat.reduceMul, Nat.reduceLeDiff, Nat.reduceEqDiff, Nat.reduceBEq, reduceIte, reduceCtorEq, c_fault_Has, fT, Int.reduceBEq, h]
theorem first11 : run U 5 [] [] = some (.bool true, []) := by
  have q1 := cbytes_run exC_ok
  rw [ex_bytes] at q1
  have q2 := fun H => cparse_run (b := [12, 2, 1, 2]) (H := H) (by simp)
  have q3 := fun H => cparse_run (b := [12, 7]) (H := H) (by simp)
  rw [bad_par.2] at q3
  simp only [resCal, ex_par] at q2
  have q4 := right_run exC_ok
  rw [ex_right] at q4
  have q5 := upU (same_run (a := exC) (b := exC) exC_ok)
  rw [decide_eq_true rfl] at q5
  have q6 : run U 14 [.agg (encC { zeroC 0 with n := 3 })] [] = some (.agg (encC (zeroC 0)), []) := run_of (n := 300) (by kernel_rfl)
  have q7 := fun H => upU (fp1 (H := H))
  have q8 := fun H => upU (fp2 (H := H))
  have q9 := fun H => upU (fp3 (H := H))
  rw [run_code (show U 5 = some (.code c_regencylaw11_first) from rfl)]
  have hb9 : ([12, 7] : List UInt8).map encB = [[.int .u8 12], [.int .u8 7]] := rfl
  rw [hb9] at q3
  have nE : isnilV .ifc true (fT callB 10 (er (some 13))) = some (.bool true) := rfl
  have sE : (fT callB 10 (er (some 13))).sh = fT callB 10 (er (some 13)) := rfl
  have oE : (fT callB 10 (er (some 13))).one = true := rfl
  have hcb : (callB.toList == [99, 97, 108, 108]) = true := by rw [show callB = ⟨([99, 97, 108, 108] : List UInt8).toArray⟩ from rfl, toList_mk]; rfl
  obtain ⟨s, hs⟩ : ∃ s : List UInt8, s = [12, 2, 1, 2] := ⟨_, rfl⟩
  have hs9 : (s == [12, 2, 1, 2]) = true := by rw [hs]; rfl
  rw [← hs] at q1
  simp only [← hs] at q2
  clear hs
  generalize hE : fT callB 10 (er (some 13)) = E at *
  simp only [encC, exC, zeroC, List.map_cons, encI, List.map_nil] at q1 q2 q3 q4 q5 q6
  simp (maxSteps := 4000000) -implicitDefEqProofs (disch := (refine id_ok ?_; first | assumption | omega | (simp only [go_sem, List.size_toArray, List.length_map, List.length_append, List.length_take, List.length_drop, List.length_cons, List.length_nil, mrLL_app, keyD_i, keyD_s, keyD_b, Nat.reduceAdd, Nat.reduceEqDiff, Nat.reduceLeDiff] <;> omega) | with_unfolding_all rfl | decide)) only [go_sem, Nat.reduceAdd, Nat.reduceSub, Nat.reduceMul, Nat.reduceLeDiff, Nat.reduceEqDiff, Nat.reduceBEq, reduceIte, reduceCtorEq, c_regencylaw11_first, q1, q2, q3, q4, q5, q6, q7, q8, q9, nE, sE, oE, hs9, hcb, Int.reduceBEq]
def grC (c : Cal) : Bool := decide ((c.at_.length : Int) > 60) || (decide ((c.seg.length : Int) > 60) || (decide (((c.lab.length + c.ent.length : Nat) : Int) > 60) || (decide ((c.own.length : Int) > 60) || (decide ((c.text.length : Int) > 600) || decide ((c.cat.length : Int) > 100)))))
theorem grC_false {c : Cal} (h : grC c = false) : c.at_.length ≤ 60 ∧ c.seg.length ≤ 60 ∧ c.lab.length + c.ent.length ≤ 60 ∧ c.own.length ≤ 60 ∧ c.text.length ≤ 600 ∧ c.cat.length ≤ 100 := by
  simp only [grC, Bool.or_eq_false_iff, decide_eq_false_iff_not] at h
  omega
theorem great_run {c : Cal} (h1 : c.lab.length ≤ 1000000000000) (h2 : c.ent.length ≤ 1000000000000) : run T 6 [.agg (encC c)] [] = some (.bool (grC c), []) := by
  have e1 : IntKind.i64.wrap ((c.lab.length : Int) + (c.ent.length : Int)) = ((c.lab.length + c.ent.length : Nat) : Int) := by rw [w64 (by omega) (by omega)]; omega
  rw [run_code T_6]
  unfold grC
  obtain ⟨a1, a2, a3, a4, a5, a6, a7, a8, a9, a10, a11⟩ := c
  have hz : (⟨a9.toArray⟩ : ByteArray).size = a9.length := by simp [ByteArray.size]
  simp only [encC] at e1 ⊢
  cases d1 : decide ((a2.length : Int) > 60)
  · cases d2 : decide ((a10.length : Int) > 60)
    · cases d3 : decide (((a3.length + a4.length : Nat) : Int) > 60)
      · cases d4 : decide ((a5.length : Int) > 60)
        · cases d5 : decide ((a8.length : Int) > 600)
          · simp (maxSteps := 4000000) -implicitDefEqProofs (disch := (refine id_ok ?_; first | assumption | omega | (simp only [go_sem, List.size_toArray, List.length_map, List.length_append, List.length_take, List.length_drop, List.length_cons, List.length_nil, mrLL_app, keyD_i, keyD_s, keyD_b, Nat.reduceAdd, Nat.reduceEqDiff, Nat.reduceLeDiff] <;> omega) | with_unfolding_all rfl | decide)) only [go_sem, Nat.reduceAdd, Nat.reduceSub, Nat.reduceMul, Nat.reduceLeDiff, Nat.reduceEqDiff, Nat.reduceBEq, reduceIte, reduceCtorEq, c_regencylaw11_great, List.length_map, d1, d2, d3, d4, d5, e1, hz, Bool.false_or, Bool.true_or]
          · simp (maxSteps := 4000000) -implicitDefEqProofs (disch := (refine id_ok ?_; first | assumption | omega | (simp only [go_sem, List.size_toArray, List.length_map, List.length_append, List.length_take, List.length_drop, List.length_cons, List.length_nil, mrLL_app, keyD_i, keyD_s, keyD_b, Nat.reduceAdd, Nat.reduceEqDiff, Nat.reduceLeDiff] <;> omega) | with_unfolding_all rfl | decide)) only [go_sem, Nat.reduceAdd, Nat.reduceSub, Nat.reduceMul, Nat.reduceLeDiff, Nat.reduceEqDiff, Nat.reduceBEq, reduceIte, reduceCtorEq, c_regencylaw11_great, List.length_map, d1, d2, d3, d4, d5, e1, hz, Bool.false_or, Bool.true_or]
        · simp (maxSteps := 4000000) -implicitDefEqProofs (disch := (refine id_ok ?_; first | assumption | omega | (simp only [go_sem, List.size_toArray, List.length_map, List.length_append, List.length_take, List.length_drop, List.length_cons, List.length_nil, mrLL_app, keyD_i, keyD_s, keyD_b, Nat.reduceAdd, Nat.reduceEqDiff, Nat.reduceLeDiff] <;> omega) | with_unfolding_all rfl | decide)) only [go_sem, Nat.reduceAdd, Nat.reduceSub, Nat.reduceMul, Nat.reduceLeDiff, Nat.reduceEqDiff, Nat.reduceBEq, reduceIte, reduceCtorEq, c_regencylaw11_great, List.length_map, d1, d2, d3, d4, e1, Bool.false_or, Bool.true_or]
      · simp (maxSteps := 4000000) -implicitDefEqProofs (disch := (refine id_ok ?_; first | assumption | omega | (simp only [go_sem, List.size_toArray, List.length_map, List.length_append, List.length_take, List.length_drop, List.length_cons, List.length_nil, mrLL_app, keyD_i, keyD_s, keyD_b, Nat.reduceAdd, Nat.reduceEqDiff, Nat.reduceLeDiff] <;> omega) | with_unfolding_all rfl | decide)) only [go_sem, Nat.reduceAdd, Nat.reduceSub, Nat.reduceMul, Nat.reduceLeDiff, Nat.reduceEqDiff, Nat.reduceBEq, reduceIte, reduceCtorEq, c_regencylaw11_great, List.length_map, d1, d2, d3, e1, Bool.false_or, Bool.true_or]
    · simp (maxSteps := 4000000) -implicitDefEqProofs (disch := (refine id_ok ?_; first | assumption | omega | (simp only [go_sem, List.size_toArray, List.length_map, List.length_append, List.length_take, List.length_drop, List.length_cons, List.length_nil, mrLL_app, keyD_i, keyD_s, keyD_b, Nat.reduceAdd, Nat.reduceEqDiff, Nat.reduceLeDiff] <;> omega) | with_unfolding_all rfl | decide)) only [go_sem, Nat.reduceAdd, Nat.reduceSub, Nat.reduceMul, Nat.reduceLeDiff, Nat.reduceEqDiff, Nat.reduceBEq, reduceIte, reduceCtorEq, c_regencylaw11_great, List.length_map, d1, d2, e1, Bool.false_or, Bool.true_or]
  · simp (maxSteps := 4000000) -implicitDefEqProofs (disch := (refine id_ok ?_; first | assumption | omega | (simp only [go_sem, List.size_toArray, List.length_map, List.length_append, List.length_take, List.length_drop, List.length_cons, List.length_nil, mrLL_app, keyD_i, keyD_s, keyD_b, Nat.reduceAdd, Nat.reduceEqDiff, Nat.reduceLeDiff] <;> omega) | with_unfolding_all rfl | decide)) only [go_sem, Nat.reduceAdd, Nat.reduceSub, Nat.reduceMul, Nat.reduceLeDiff, Nat.reduceEqDiff, Nat.reduceBEq, reduceIte, reduceCtorEq, c_regencylaw11_great, List.length_map, d1, Bool.false_or, Bool.true_or]
/-- The names' lengths, as all that stands in a machine. -/
def shC (c : Cal) : Prop := (∀ e ∈ c.lab, e.1.length ≤ 281474976710656) ∧ (∀ e ∈ c.ent, e.1.length ≤ 281474976710656) ∧ shS c.own ∧ c.lab.length ≤ 1000000000000 ∧ c.ent.length ≤ 1000000000000
theorem okC_of {c : Cal} (h : grC c = false) (hs : shC c) : okC c := by
  obtain ⟨h1, h2, h3, h4, h5, h6⟩ := grC_false h
  exact ⟨by omega, by omega, by omega, by omega, by omega, by omega, hs.1, hs.2.1, hs.2.2.1, by omega⟩
theorem appB {a b : List UInt8} (h : a.length + b.length ≤ 100000000) : appV 1 1 (ow (a.map encB)) (some (b.map encB)) = some (ow ((a ++ b).map encB)) := by
  have := app_ow (S := 1) (bytes := 1) (l := a.map encB) (fs := b.map encB) szOK_enc szOK_enc (by simp only [List.length_map]; omega) (by simp only [List.length_map]; omega)
  rw [this, List.map_append]
theorem cback_run {c : Cal} {b : List UInt8} (hs : shC c) : run U 4 [.agg (encC c), .sl .sh (b.map encB)] [] = some (.bool true, []) := by
  have g1 := upU (great_run hs.2.2.2.1 hs.2.2.2.2)
  rw [run_code (show U 4 = some (.code c_regencylaw11_CallBack) from rfl)]
  cases hg : grC c with
  | true =>
    rw [hg] at g1
    obtain ⟨a1, a2, a3, a4, a5, a6, a7, a8, a9, a10, a11⟩ := c
    simp only [encC] at g1 ⊢
    simp (maxSteps := 4000000) -implicitDefEqProofs (disch := (refine id_ok ?_; first | assumption | omega | (simp only [go_sem, List.size_toArray, List.length_map, List.length_append, List.length_take, List.length_drop, List.length_cons, List.length_nil, mrLL_app, keyD_i, keyD_s, keyD_b, Nat.reduceAdd, Nat.reduceEqDiff, Nat.reduceLeDiff] <;> omega) | with_unfolding_all rfl | decide)) only [go_sem, Nat.reduceAdd, Nat.reduceSub, Nat.reduceMul, Nat.reduceLeDiff, Nat.reduceEqDiff, Nat.reduceBEq, reduceIte, reduceCtorEq, c_regencylaw11_CallBack, first11, g1, Bool.not_true]
  | false =>
    rw [hg] at g1
    have hok := okC_of hg hs
    by_cases hb : (b.length : Int) > 800
    · have d1 : decide ((b.length : Int) > 800) = true := decide_eq_true hb
      obtain ⟨a1, a2, a3, a4, a5, a6, a7, a8, a9, a10, a11⟩ := c
      simp only [encC] at g1 ⊢
      simp (maxSteps := 4000000) -implicitDefEqProofs (disch := (refine id_ok ?_; first | assumption | omega | (simp only [go_sem, List.size_toArray, List.length_map, List.length_append, List.length_take, List.length_drop, List.length_cons, List.length_nil, mrLL_app, keyD_i, keyD_s, keyD_b, Nat.reduceAdd, Nat.reduceEqDiff, Nat.reduceLeDiff] <;> omega) | with_unfolding_all rfl | decide)) only [go_sem, Nat.reduceAdd, Nat.reduceSub, Nat.reduceMul, Nat.reduceLeDiff, Nat.reduceEqDiff, Nat.reduceBEq, reduceIte, reduceCtorEq, c_regencylaw11_CallBack, first11, g1, Bool.not_true, List.length_map, d1]
    · have d1 : decide ((b.length : Int) > 800) = false := decide_eq_false hb
      have q1 := cbytes_run hok
      have q2 := right_run hok
      have hl := bytCal_len c
      have hpar : (parCal b = none ∧ ∃ e : Option Int, resCal b = .tup [.agg (encC (zeroC 0)), fT callB 10 (er e)]) ∨ ∃ x, (rigCal x = true ∧ bytCal x = b ∧ okC x) ∧ resCal b = .tup [.agg (encC x), .nili] := by
        unfold resCal
        cases hp : parCal b with
        | none => exact .inl ⟨rfl, _, rfl⟩
        | some x =>
          obtain ⟨p1, p2⟩ := parCal_inv hp
          refine .inr ⟨x, ⟨p1, p2, ?_⟩, rfl⟩
          unfold parCal at hp
          split at hp <;> try (cases hp; done)
          rename_i h0
          cases hp
          unfold getCal at h0 ⊢
          split at h0
          · rename_i h1
            rw [if_pos h1]
            exact rdCal_ok (by simp only; omega)
          · simp at h0
      have n1 : ∀ e : Option Int, isnilV .ifc true (fT callB 10 (er e)) = some (.bool true) := fun e => rfl
      have sF : ∀ e : Option Int, (fT callB 10 (er e)).sh = fT callB 10 (er e) := fun e => by cases e <;> rfl
      have oF : ∀ e : Option Int, (fT callB 10 (er e)).one = true := fun e => by cases e <;> rfl
      have q3 := fun H => cparse_run (b := b) (H := H) (by omega)
      have f1 := fun H => upU (tnew_run (b := bytCal c ++ b) (h := H) (by rw [List.length_append]; omega))
      have f2 := appB (a := bytCal c) (b := b) (by omega)
      have f3 := upU (same_run (a := c) (b := c) hok)
      rw [decide_eq_true rfl] at f3
      have hX : ∀ s2 : TS, ([Bx.cells (encC c), Tb (bytCal c ++ b, none)] : AH).set 1 (Tb s2) = [Bx.cells (encC c), Tb s2] := fun s2 => rfl
      cases hr : rigCal c with
      | false =>
        have hz : bytCal c = [] := by unfold bytCal; rw [if_neg (by rw [hr]; simp)]
        rw [hr] at q2
        rw [hz, List.map_nil] at q1
        clear hs hok hl hz hr hg hX f1 f2 f3
        have z0 : (((0 : Nat) : Int) != 0) = false := rfl
        rcases hpar with ⟨_, e, hp⟩ | ⟨x, ⟨p1, p2, p3⟩, hp⟩
        · rw [hp] at q3
          clear hp
          have n1 := n1 e
          have n2 := sF e
          have n3 := oF e
          clear sF oF
          generalize fT callB 10 (er e) = E at *
          obtain ⟨a1, a2, a3, a4, a5, a6, a7, a8, a9, a10, a11⟩ := c
          simp only [encC, zeroC, List.map_nil] at g1 q1 q2 q3 ⊢
          simp (maxSteps := 4000000) -implicitDefEqProofs (disch := (refine id_ok ?_; first | assumption | omega | (simp only [go_sem, List.size_toArray, List.length_map, List.length_append, List.length_take, List.length_drop, List.length_cons, List.length_nil, mrLL_app, keyD_i, keyD_s, keyD_b, Nat.reduceAdd, Nat.reduceEqDiff, Nat.reduceLeDiff] <;> omega) | with_unfolding_all rfl | decide)) only [go_sem, Nat.reduceAdd, Nat.reduceSub, Nat.reduceMul, Nat.reduceLeDiff, Nat.reduceEqDiff, Nat.reduceBEq, reduceIte, reduceCtorEq, c_regencylaw11_CallBack, first11, g1, q1, q2, q3, n1, n2, n3, z0, Bool.not_true, Bool.not_false, List.length_map, List.length_nil, d1]
        · rw [hp] at q3
          have r1 := cbytes_run p3
          have r2 := right_run p3
          rw [p1] at r2
          rw [p2] at r1
          have hbb : (b == b) = true := by simp
          clear hp p1 p2 p3
          obtain ⟨a1, a2, a3, a4, a5, a6, a7, a8, a9, a10, a11⟩ := c
          obtain ⟨b1, b2, b3, b4, b5, b6, b7, b8, b9, b10, b11⟩ := x
          simp only [encC] at g1 q1 q2 q3 r1 r2 ⊢
          simp (maxSteps := 4000000) -implicitDefEqProofs (disch := (refine id_ok ?_; first | assumption | omega | (simp only [go_sem, List.size_toArray, List.length_map, List.length_append, List.length_take, List.length_drop, List.length_cons, List.length_nil, mrLL_app, keyD_i, keyD_s, keyD_b, Nat.reduceAdd, Nat.reduceEqDiff, Nat.reduceLeDiff] <;> omega) | with_unfolding_all rfl | decide)) only [go_sem, Nat.reduceAdd, Nat.reduceSub, Nat.reduceMul, Nat.reduceLeDiff, Nat.reduceEqDiff, Nat.reduceBEq, reduceIte, reduceCtorEq, c_regencylaw11_CallBack, first11, g1, q1, q2, q3, r1, r2, z0, Bool.not_true, Bool.not_false, List.length_map, List.length_nil, d1, hbb]
      | true =>
        have f4 := cget_run (t := 1) (s := (bytCal c ++ b, none)) (H := [Bx.cells (encC c), Tb (bytCal c ++ b, none)]) rfl (by simp only [List.length_append]; omega)
        rw [getCal_put hr b, hX] at f4
        rw [hr] at q2
        clear hs hok hl hr hg hX
        generalize bytCal c = bc at *
        rcases hpar with ⟨_, e, hp⟩ | ⟨x, ⟨p1, p2, p3⟩, hp⟩
        · rw [hp] at q3
          clear hp
          have n1 := n1 e
          have n2 := sF e
          have n3 := oF e
          clear sF oF
          generalize fT callB 10 (er e) = E at *
          obtain ⟨a1, a2, a3, a4, a5, a6, a7, a8, a9, a10, a11⟩ := c
          simp only [encC, zeroC, List.map_nil] at g1 q1 q2 q3 f3 f4 ⊢
          simp (maxSteps := 4000000) -implicitDefEqProofs (disch := (refine id_ok ?_; first | assumption | omega | (simp only [go_sem, List.size_toArray, List.length_map, List.length_append, List.length_take, List.length_drop, List.length_cons, List.length_nil, mrLL_app, keyD_i, keyD_s, keyD_b, Nat.reduceAdd, Nat.reduceEqDiff, Nat.reduceLeDiff] <;> omega) | with_unfolding_all rfl | decide)) only [go_sem, Nat.reduceAdd, Nat.reduceSub, Nat.reduceMul, Nat.reduceLeDiff, Nat.reduceEqDiff, Nat.reduceBEq, reduceIte, reduceCtorEq, c_regencylaw11_CallBack, first11, g1, q1, q2, q3, n1, n2, n3, f1, f2, f3, f4, Bool.not_true, Bool.not_false, List.length_map, d1]
        · rw [hp] at q3
          have r1 := cbytes_run p3
          have r2 := right_run p3
          rw [p1] at r2
          rw [p2] at r1
          have hbb : (b == b) = true := by simp
          clear hp p1 p2 p3
          obtain ⟨a1, a2, a3, a4, a5, a6, a7, a8, a9, a10, a11⟩ := c
          obtain ⟨b1, b2, b3, b4, b5, b6, b7, b8, b9, b10, b11⟩ := x
          simp only [encC] at g1 q1 q2 q3 r1 r2 f3 f4 ⊢
          simp (maxSteps := 4000000) -implicitDefEqProofs (disch := (refine id_ok ?_; first | assumption | omega | (simp only [go_sem, List.size_toArray, List.length_map, List.length_append, List.length_take, List.length_drop, List.length_cons, List.length_nil, mrLL_app, keyD_i, keyD_s, keyD_b, Nat.reduceAdd, Nat.reduceEqDiff, Nat.reduceLeDiff] <;> omega) | with_unfolding_all rfl | decide)) only [go_sem, Nat.reduceAdd, Nat.reduceSub, Nat.reduceMul, Nat.reduceLeDiff, Nat.reduceEqDiff, Nat.reduceBEq, reduceIte, reduceCtorEq, c_regencylaw11_CallBack, first11, g1, q1, q2, q3, r1, r2, f1, f2, f3, f4, Bool.not_true, Bool.not_false, List.length_map, d1, hbb]
end Go.Proofs.YtlcflpanellbfaaGreatDoor.L
