/- Calls as words: the document's, walked. -/
import Derived.Test.YtibchilpaaiecaaGreatDoorL119
import Derived.Test.YtibchilpaaiecaaGreatDoorL43
set_option linter.all false
set_option maxRecDepth 100000
set_option maxHeartbeats 32000000
namespace Go.Proofs.YtibchilpaaiecaaGreatDoor.L
open Go.Proofs.YtibchilpaaiecaaGreatDoor.M Go.Proofs.YtibchilpaaiecaaGreatDoor.F Go.Proofs
theorem rname_run {op : Int} : run T 9 [.int .i64 op] [] = some (.str ⟨(nmT op).toArray⟩, []) := by
  by_cases hop : 0 ≤ op ∧ op ≤ 20
  · rcases op21 hop with rfl | rfl | h
    · exact run_of (n := 300) (by kernel_rfl)
    · exact run_of (n := 300) (by kernel_rfl)
    rcases op_cases h with rfl | rfl | rfl | rfl | rfl | rfl | rfl | rfl | rfl | rfl | rfl | rfl | rfl | rfl | rfl | rfl | rfl | rfl | rfl <;> exact run_of (n := 300) (by kernel_rfl)
  · rw [run_code T_9]
    unfold nmT
    rw [if_neg hop]
    by_cases h0 : op < 0
    · have d1 : decide (op < 0) = true := decide_eq_true h0
      simp (maxSteps := 2000000) -implicitDefEqProofs (disch := (refine id_ok ?_; first | assumption | omega | (simp [go_sem] <;> omega) | with_unfolding_all rfl | decide)) only [go_sem, Nat.reduceAdd, Nat.reduceSub, Nat.reduceMul, Nat.reduceLeDiff, Nat.reduceEqDiff, Nat.reduceBEq, reduceIte, reduceCtorEq, c_regencyref37_Name, d1]
    · have d1 : decide (op < 0) = false := decide_eq_false h0
      have d2 : decide (op > 20) = true := decide_eq_true (by omega)
      simp (maxSteps := 2000000) -implicitDefEqProofs (disch := (refine id_ok ?_; first | assumption | omega | (simp [go_sem] <;> omega) | with_unfolding_all rfl | decide)) only [go_sem, Nat.reduceAdd, Nat.reduceSub, Nat.reduceMul, Nat.reduceLeDiff, Nat.reduceEqDiff, Nat.reduceBEq, reduceIte, reduceCtorEq, c_regencyref37_Name, d1, d2]
theorem rway_run {l : List Int} (hl : l.length ≤ 1000) (hi : i64L l) : run T 32 [.sl .sh (l.map encI)] [] = some (.str ⟨(wayT l).toArray⟩, []) := by
  rw [run_code T_32]
  unfold wayT
  by_cases h0 : l = []
  · subst h0
    rw [if_pos rfl]
    simp (maxSteps := 2000000) -implicitDefEqProofs (disch := (refine id_ok ?_; first | assumption | omega | (simp [go_sem] <;> omega) | with_unfolding_all rfl | decide)) only [go_sem, Nat.reduceAdd, Nat.reduceSub, Nat.reduceMul, Nat.reduceLeDiff, Nat.reduceEqDiff, Nat.reduceBEq, reduceIte, reduceCtorEq, c_regencyref37_way, List.map_nil, show (((0 : Nat) : Int) == 0) = true from rfl]
  · rw [if_neg h0]
    have hz := eqz (n := l.length) fun e => h0 (List.length_eq_zero_iff.1 e)
    have h1 := rt8_run (l := l) (h := []) hl hi
    simp (maxSteps := 2000000) -implicitDefEqProofs (disch := (refine id_ok ?_; first | assumption | omega | (simp [go_sem] <;> omega) | with_unfolding_all rfl | decide)) only [go_sem, Nat.reduceAdd, Nat.reduceSub, Nat.reduceMul, Nat.reduceLeDiff, Nat.reduceEqDiff, Nat.reduceBEq, reduceIte, reduceCtorEq, c_regencyref37_way, List.length_map, hz, h1]
def jnF : Bool → List (List UInt8) → List UInt8
  | _, [] => []
  | b, x :: r => (if b then [44] else []) ++ (x ++ jnF true r)
theorem jnF_tail : ∀ l : List (List UInt8), jnF true l = Lib.joinTail [44] l
  | [] => rfl
  | x :: r => by rw [jnF, jnF_tail r]; simp [Lib.joinTail]
theorem jnF_join (l : List (List UInt8)) (h : l ≠ []) : jnF false l = Lib.join l [44] := by
  cases l with
  | nil => exact absurd rfl h
  | cons x r => rw [jnF, jnF_tail r, Lib.join_cons]; simp
theorem rjoin_loop {l : List (List UInt8)} {h : AH} (hl : l.length ≤ 1000) (hs : ∀ s ∈ l, s.length ≤ 60) : ∀ (d i : Nat) (a : List UInt8), d + i = l.length → a.length ≤ 61 * i →
    den T (.loop l_regencyref37_join_0) (s_regencyref37_join_0 (.str ⟨a.toArray⟩) (.sl .sh (l.map encT)) (.int .i64 l.length) (.int .i64 i)) h = some (.exit 0, x_regencyref37_join_0 (.str ⟨(a ++ jnF (decide (0 < i)) (l.drop i)).toArray⟩), h) := by
  have e44 : (⟨#[44]⟩ : ByteArray) = ⟨([44] : List UInt8).toArray⟩ := rfl
  intro d
  induction d with
  | zero =>
    intro i a hd ha
    have hd' : decide ((i : Int) < l.length) = false := decide_eq_false (by omega)
    rw [List.drop_eq_nil_of_le (by omega), jnF, List.append_nil]
    rw [lp_round]
    simp -implicitDefEqProofs (disch := (refine id_ok ?_; first | assumption | omega | (simp [go_sem] <;> omega) | with_unfolding_all rfl | decide)) only [go_sem, Nat.reduceAdd, Nat.reduceSub, Nat.reduceMul, Nat.reduceLeDiff, Nat.reduceEqDiff, Nat.reduceBEq, reduceIte, reduceCtorEq, hd']
  | succ d ih =>
    intro i a hd ha
    have hib : i < l.length := by omega
    have hd' : decide ((i : Int) < l.length) = true := decide_eq_true (by omega)
    have hge : (l.map encT)[(i : Int).toNat]? = some (encT l[i]) := by simp [hib]
    have hdr : l.drop i = l[i] :: l.drop (i + 1) := List.drop_eq_getElem_cons hib
    have e7 := incP (n := i) (by omega)
    have h60 := hs l[i] (List.getElem_mem hib)
    have ih' := fun a' ha' => ih (i + 1) a' (by omega) ha'
    rw [show decide (0 < i + 1) = true from decide_eq_true (by omega)] at ih'
    rw [hdr, jnF]
    generalize l[i] = x at *
    simp only [encT] at hge
    by_cases h0 : 0 < i
    · have d0 : decide (0 < i) = true := decide_eq_true h0
      have d1 : decide ((i : Int) > 0) = true := decide_eq_true (by omega)
      have ih2 := ih' (a ++ [44] ++ x) (by simp only [List.length_append, List.length_cons, List.length_nil]; omega)
      simp only [d0, if_true]
      simp only [List.append_assoc, List.cons_append, List.nil_append] at ih2 ⊢
      rw [lp_round]
      simp (maxSteps := 2000000) -implicitDefEqProofs (disch := (refine id_ok ?_; first | assumption | omega | (simp [go_sem] <;> omega) | with_unfolding_all rfl | decide)) only [go_sem, Nat.reduceAdd, Nat.reduceSub, Nat.reduceMul, Nat.reduceLeDiff, Nat.reduceEqDiff, Nat.reduceBEq, reduceIte, reduceCtorEq, hd', hge, d1, e44, e7]
      exact ih2
    · have d0 : decide (0 < i) = false := decide_eq_false h0
      have d1 : decide ((i : Int) > 0) = false := decide_eq_false (by omega)
      have ih2 := ih' (a ++ x) (by simp only [List.length_append]; omega)
      simp only [d0, Bool.false_eq_true, if_false]
      simp only [List.append_assoc, List.cons_append, List.nil_append] at ih2 ⊢
      rw [lp_round]
      simp (maxSteps := 2000000) -implicitDefEqProofs (disch := (refine id_ok ?_; first | assumption | omega | (simp [go_sem] <;> omega) | with_unfolding_all rfl | decide)) only [go_sem, Nat.reduceAdd, Nat.reduceSub, Nat.reduceMul, Nat.reduceLeDiff, Nat.reduceEqDiff, Nat.reduceBEq, reduceIte, reduceCtorEq, hd', hge, d1, e7]
      exact ih2
theorem rigC_ne {s : List UInt8} (h : rigC s = true) : s ≠ [] := by
  rintro rfl
  have : rigC [] = false := by decide +kernel
  rw [this] at h; cases h
theorem rjoin_run {l : List (List UInt8)} (hr : rigO l = true) : run T 35 [.sl .sh (l.map encT)] [] = some (.str ⟨(ownT l).toArray⟩, []) := by
  obtain ⟨h8, hs⟩ := rigO_all hr
  have h1 := rjoin_loop (h := []) (by omega) (fun s h => (hs s h).2) l.length 0 [] (by omega) (by simp)
  simp only [show ((0 : Nat) : Int) = 0 from rfl, List.drop_zero, List.nil_append, show decide (0 < 0) = false from rfl] at h1
  rw [run_code T_35]
  unfold ownT
  by_cases h0 : l = []
  · have e1 : (jnF false l == []) = true := by rw [h0]; rfl
    rw [if_pos h0]
    simp (maxSteps := 2000000) -implicitDefEqProofs (disch := (refine id_ok ?_; first | assumption | omega | (simp [go_sem] <;> omega) | with_unfolding_all rfl | decide)) only [go_sem, Nat.reduceAdd, Nat.reduceSub, Nat.reduceMul, Nat.reduceLeDiff, Nat.reduceEqDiff, Nat.reduceBEq, reduceIte, reduceCtorEq, c_regencyref37_join, List.length_map, h1, e1]
  · rw [if_neg h0, ← jnF_join l h0]
    have e1 : (jnF false l == []) = false := by
      cases l with
      | nil => exact absurd rfl h0
      | cons x r =>
        have := rigC_ne (hs x (by simp)).1
        cases x with
        | nil => exact absurd rfl this
        | cons c x => rfl
    simp (maxSteps := 2000000) -implicitDefEqProofs (disch := (refine id_ok ?_; first | assumption | omega | (simp [go_sem] <;> omega) | with_unfolding_all rfl | decide)) only [go_sem, Nat.reduceAdd, Nat.reduceSub, Nat.reduceMul, Nat.reduceLeDiff, Nat.reduceEqDiff, Nat.reduceBEq, reduceIte, reduceCtorEq, c_regencyref37_join, List.length_map, h1, e1]
theorem hslc {d : Nat} (h : d < 16) : sliceV none (.str ⟨#[48, 49, 50, 51, 52, 53, 54, 55, 56, 57, 97, 98, 99, 100, 101, 102]⟩) (some (some (d : Int))) (some (some ((d + 1 : Nat) : Int))) (some none) = some (.str ⟨[hexD d].toArray⟩) := by
  have : d = 0 ∨ d = 1 ∨ d = 2 ∨ d = 3 ∨ d = 4 ∨ d = 5 ∨ d = 6 ∨ d = 7 ∨ d = 8 ∨ d = 9 ∨ d = 10 ∨ d = 11 ∨ d = 12 ∨ d = 13 ∨ d = 14 ∨ d = 15 := by omega
  rcases this with rfl | rfl | rfl | rfl | rfl | rfl | rfl | rfl | rfl | rfl | rfl | rfl | rfl | rfl | rfl | rfl <;> rfl
theorem rhex_loop {c : Cal} {ps : List UInt8} {i0 : Int} (hl : c.text.length ≤ 1000) : ∀ (d i : Nat) (a : List UInt8), d + i = c.text.length → a.length ≤ 1000000000 + 2 * i →
    den T (.loop l_regencyref37_Text_1) (s_regencyref37_Text_1 (.box 0 0) (.str ⟨a.toArray⟩) (.str ⟨ps.toArray⟩) (.int .i64 i0) (.sl .sh (c.text.map encB)) (.int .i64 c.text.length) (.int .i64 i)) [.cells (encC c)] = some (.exit 3, x_regencyref37_Text_3 (.box 0 0) (.str ⟨(a ++ hexT (c.text.drop i)).toArray⟩) (.str ⟨ps.toArray⟩) (.int .i64 i0), [.cells (encC c)]) := by
  generalize [Bx.cells (encC c)] = H
  generalize c.text = l at *
  intro d
  induction d with
  | zero =>
    intro i a hd ha
    have hd' : decide ((i : Int) < l.length) = false := decide_eq_false (by omega)
    rw [List.drop_eq_nil_of_le (by omega), hexT, List.append_nil]
    rw [lp_round]
    simp -implicitDefEqProofs (disch := (refine id_ok ?_; first | assumption | omega | (simp [go_sem] <;> omega) | with_unfolding_all rfl | decide)) only [go_sem, Nat.reduceAdd, Nat.reduceSub, Nat.reduceMul, Nat.reduceLeDiff, Nat.reduceEqDiff, Nat.reduceBEq, reduceIte, reduceCtorEq, hd']
  | succ d ih =>
    intro i a hd ha
    have hib : i < l.length := by omega
    have hd' : decide ((i : Int) < l.length) = true := decide_eq_true (by omega)
    have hge : (l.map encB)[(i : Int).toNat]? = some (encB l[i]) := by simp [hib]
    have hdr : l.drop i = l[i] :: l.drop (i + 1) := List.drop_eq_getElem_cons hib
    have e7 := incP (n := i) (by omega)
    rw [hdr, hexT]
    generalize l[i] = x at *
    have hx := x.toNat_lt
    have ih' := ih (i + 1) (a ++ [hexD (x.toNat / 16), hexD (x.toNat % 16)]) (by omega) (by simp only [List.length_append, List.length_cons, List.length_nil]; omega)
    have f1 : IntKind.u8.wrap ((x.toNat : Int).tdiv 16) = ((x.toNat / 16 : Nat) : Int) := by rw [Int.tdiv_eq_ediv_of_nonneg (by omega), w8]; omega
    have f2 : IntKind.u8.wrap ((x.toNat : Int).tmod 16) = ((x.toNat % 16 : Nat) : Int) := by rw [Int.tmod_eq_emod_of_nonneg (by omega), w8]; omega
    have f2' : (x.toNat : Int).tmod 16 = ((x.toNat % 16 : Nat) : Int) := by rw [Int.tmod_eq_emod_of_nonneg (by omega)]; omega
    have f3 : IntKind.u8.wrap (((x.toNat / 16 : Nat) : Int) + 1) = ((x.toNat / 16 + 1 : Nat) : Int) := by rw [w8]; omega
    have f4 : IntKind.u8.wrap (((x.toNat % 16 : Nat) : Int) + 1) = ((x.toNat % 16 + 1 : Nat) : Int) := by rw [w8]; omega
    have g1 := hslc (d := x.toNat / 16) (by omega)
    have g2 := hslc (d := x.toNat % 16) (by omega)
    simp only [List.append_assoc, List.cons_append, List.nil_append] at ih'
    simp only [encB] at hge
    rw [lp_round]
    simp (maxSteps := 2000000) -implicitDefEqProofs (disch := (refine id_ok ?_; first | assumption | omega | (simp [go_sem] <;> omega) | with_unfolding_all rfl | decide)) only [go_sem, Nat.reduceAdd, Nat.reduceSub, Nat.reduceMul, Nat.reduceLeDiff, Nat.reduceEqDiff, Nat.reduceBEq, reduceIte, reduceCtorEq, hd', hge, f1, f2, f2', f3, f4, g1, g2, e7, List.cons_append, List.nil_append]
    exact ih'
def low (p : UInt8) : UInt8 := if p = 100 then 110 else p
def oneT (c : Cal) (p : UInt8) : List UInt8 := 32 :: wrd c (low p)
theorem pS_fit (op : Int) : (pS op).length ≤ 6 ∧ ∀ p ∈ pS op, p = 97 ∨ p = 115 ∨ p = 108 ∨ p = 101 ∨ p = 110 ∨ p = 100 ∨ p = 109 ∨ p = 111 ∨ p = 116 ∨ p = 99 ∨ p = 119 := by
  by_cases hop : 2 ≤ op ∧ op ≤ 20
  · rcases op_cases hop with rfl | rfl | rfl | rfl | rfl | rfl | rfl | rfl | rfl | rfl | rfl | rfl | rfl | rfl | rfl | rfl | rfl | rfl | rfl <;> decide
  · rw [pS_none hop]; exact ⟨by simp, fun p hp => by cases hp⟩
theorem fS_pS (op : Int) : fS op = (pS op).map low := by
  by_cases hop : 0 ≤ op ∧ op ≤ 20
  · rcases op21 hop with rfl | rfl | h
    · rfl
    · rfl
    rcases op_cases h with rfl | rfl | rfl | rfl | rfl | rfl | rfl | rfl | rfl | rfl | rfl | rfl | rfl | rfl | rfl | rfl | rfl | rfl | rfl <;> rfl
  · rw [pS_none (by omega)]; unfold fS; rw [if_neg hop]; rfl
theorem rtxt_loop {c : Cal} {ps : List UInt8} (hr : rigCal c = true) (hps : ps.length ≤ 6) (hfit : ∀ p ∈ ps, p = 97 ∨ p = 115 ∨ p = 108 ∨ p = 101 ∨ p = 110 ∨ p = 100 ∨ p = 109 ∨ p = 111 ∨ p = 116 ∨ p = 99 ∨ p = 119) : ∀ (d i : Nat) (a : List UInt8), d + i = ps.length → a.length ≤ 9 + 9000001 * i →
    den T (.loop l_regencyref37_Text_0) (s_regencyref37_Text_0 (.box 0 0) (.str ⟨a.toArray⟩) (.str ⟨ps.toArray⟩) (.int .i64 i)) [.cells (encC c)] = some (.exit 0, x_regencyref37_Text_0 (.str ⟨(a ++ (ps.drop i).flatMap (oneT c)).toArray⟩), [.cells (encC c)]) := by
  have r := rcC_of hr
  have hz : (⟨ps.toArray⟩ : ByteArray).size = ps.length := by simp [ByteArray.size]
  have q1 := rway_run (l := c.at_) (by have := (rigP_all r.at_).1; omega) (rigP_i64 r.at_)
  have q2 := rway_run (l := c.seg) (by have := (rigP_all r.seg).1; omega) (rigP_i64 r.seg)
  have q3 := l6tx_run (l := c.lab) (rigL_okE r.lab).1 (by have := (rigL_okE r.lab).2; omega)
  have q4 := l6tx_run (l := c.ent) (rigL_okE r.ent).1 (by have := (rigL_okE r.ent).2; omega)
  have q5 := numI_run (n := c.n) (h := []) (by have := r.n; omega) (by have := r.n; omega)
  have q6 := numI_run (n := c.m) (h := []) (by have := r.m; omega) (by have := r.m; omega)
  have q7 := rjoin_run r.own
  have q8 := fun i0 a ha => rhex_loop (c := c) (ps := ps) (i0 := i0) (by have := r.text; omega) c.text.length 0 a (by omega) ha
  have hwl := wrd_len hr
  have e32 : (⟨#[32]⟩ : ByteArray) = ⟨([32] : List UInt8).toArray⟩ := rfl
  have e45 : (⟨#[45]⟩ : ByteArray) = ⟨([45] : List UInt8).toArray⟩ := rfl
  have e119 : (⟨#[119]⟩ : ByteArray) = ⟨([119] : List UInt8).toArray⟩ := rfl
  have e114 : (⟨#[114]⟩ : ByteArray) = ⟨([114] : List UInt8).toArray⟩ := rfl
  have htl := r.text
  intro d
  induction d with
  | zero =>
    intro i a hd ha
    have hd' : decide ((i : Int) < ps.length) = false := decide_eq_false (by omega)
    rw [List.drop_eq_nil_of_le (by omega), List.flatMap_nil, List.append_nil]
    rw [lp_round]
    simp -implicitDefEqProofs (disch := (refine id_ok ?_; first | assumption | omega | (simp [go_sem] <;> omega) | with_unfolding_all rfl | decide)) only [go_sem, Nat.reduceAdd, Nat.reduceSub, Nat.reduceMul, Nat.reduceLeDiff, Nat.reduceEqDiff, Nat.reduceBEq, reduceIte, reduceCtorEq, hz, hd']
  | succ d ih =>
    intro i a hd ha
    have hib : i < ps.length := by omega
    have hd' : decide ((i : Int) < ps.length) = true := decide_eq_true (by omega)
    have hg : (⟨ps.toArray⟩ : ByteArray)[(i : Int).toNat]? = some ps[i] := by
      have := str_get (a := ps) (i := i)
      rw [Int.toNat_natCast, this]; simp [hib]
    have hdr : ps.drop i = ps[i] :: ps.drop (i + 1) := List.drop_eq_getElem_cons hib
    have e7 := incP (n := i) (by omega)
    have hp := hfit _ (List.getElem_mem hib)
    rw [hdr, List.flatMap_cons, ← List.append_assoc]
    generalize ps[i] = p at *
    have hwp := hwl (low p)
    have ih' := ih (i + 1) (a ++ oneT c p) (by omega) (by simp only [oneT, List.length_append, List.length_cons]; omega)
    unfold oneT at ih' ⊢
    generalize (ps.drop (i + 1)).flatMap (fun p => 32 :: wrd c (low p)) = R at *
    clear ih hr hwl hfit r hdr
    have q8 := q8 i (a ++ [32]) (by simp only [List.length_append, List.length_cons, List.length_nil]; omega)
    simp only [show ((0 : Nat) : Int) = 0 from rfl, List.drop_zero] at q8
    obtain ⟨a1, a2, a3, a4, a5, a6, a7, a8, a9, a10, a11⟩ := c
    simp only [encC] at q1 q2 q3 q4 q5 q6 q7 q8 ih' htl hwp ⊢
    rcases hp with rfl | rfl | rfl | rfl | rfl | rfl | rfl | rfl | rfl | rfl | rfl
    · rw [show wrd ⟨a1, a2, a3, a4, a5, a6, a7, a8, a9, a10, a11⟩ (low 97) = wayT a2 from rfl] at ih' hwp ⊢
      have hk : (UInt8.toNat 97 : Int) = 97 := rfl
      simp only [List.append_assoc, List.cons_append, List.nil_append] at ih' ⊢
      rw [lp_round]
      simp (maxSteps := 4000000) -implicitDefEqProofs (disch := (refine id_ok ?_; first | assumption | omega | (simp [go_sem] <;> omega) | with_unfolding_all rfl | decide)) only [go_sem, Nat.reduceAdd, Nat.reduceSub, Nat.reduceMul, Nat.reduceLeDiff, Nat.reduceEqDiff, Nat.reduceBEq, reduceIte, reduceCtorEq, hz, hd', hg, hk, Int.reduceBEq, e32, q1, q2, q3, q4, q5, q6, q7, e7, List.append_assoc, List.cons_append, List.nil_append]
      exact ih'
    · rw [show wrd ⟨a1, a2, a3, a4, a5, a6, a7, a8, a9, a10, a11⟩ (low 115) = wayT a10 from rfl] at ih' hwp ⊢
      have hk : (UInt8.toNat 115 : Int) = 115 := rfl
      simp only [List.append_assoc, List.cons_append, List.nil_append] at ih' ⊢
      rw [lp_round]
      simp (maxSteps := 4000000) -implicitDefEqProofs (disch := (refine id_ok ?_; first | assumption | omega | (simp [go_sem] <;> omega) | with_unfolding_all rfl | decide)) only [go_sem, Nat.reduceAdd, Nat.reduceSub, Nat.reduceMul, Nat.reduceLeDiff, Nat.reduceEqDiff, Nat.reduceBEq, reduceIte, reduceCtorEq, hz, hd', hg, hk, Int.reduceBEq, e32, q1, q2, q3, q4, q5, q6, q7, e7, List.append_assoc, List.cons_append, List.nil_append]
      exact ih'
    · rw [show wrd ⟨a1, a2, a3, a4, a5, a6, a7, a8, a9, a10, a11⟩ (low 108) = labT a3 from rfl] at ih' hwp ⊢
      have hk : (UInt8.toNat 108 : Int) = 108 := rfl
      simp only [List.append_assoc, List.cons_append, List.nil_append] at ih' ⊢
      rw [lp_round]
      simp (maxSteps := 4000000) -implicitDefEqProofs (disch := (refine id_ok ?_; first | assumption | omega | (simp [go_sem] <;> omega) | with_unfolding_all rfl | decide)) only [go_sem, Nat.reduceAdd, Nat.reduceSub, Nat.reduceMul, Nat.reduceLeDiff, Nat.reduceEqDiff, Nat.reduceBEq, reduceIte, reduceCtorEq, hz, hd', hg, hk, Int.reduceBEq, e32, q1, q2, q3, q4, q5, q6, q7, e7, List.append_assoc, List.cons_append, List.nil_append]
      exact ih'
    · rw [show wrd ⟨a1, a2, a3, a4, a5, a6, a7, a8, a9, a10, a11⟩ (low 101) = labT a4 from rfl] at ih' hwp ⊢
      have hk : (UInt8.toNat 101 : Int) = 101 := rfl
      simp only [List.append_assoc, List.cons_append, List.nil_append] at ih' ⊢
      rw [lp_round]
      simp (maxSteps := 4000000) -implicitDefEqProofs (disch := (refine id_ok ?_; first | assumption | omega | (simp [go_sem] <;> omega) | with_unfolding_all rfl | decide)) only [go_sem, Nat.reduceAdd, Nat.reduceSub, Nat.reduceMul, Nat.reduceLeDiff, Nat.reduceEqDiff, Nat.reduceBEq, reduceIte, reduceCtorEq, hz, hd', hg, hk, Int.reduceBEq, e32, q1, q2, q3, q4, q5, q6, q7, e7, List.append_assoc, List.cons_append, List.nil_append]
      exact ih'
    · rw [show wrd ⟨a1, a2, a3, a4, a5, a6, a7, a8, a9, a10, a11⟩ (low 110) = Lib.itoa a6 from rfl] at ih' hwp ⊢
      have hk : (UInt8.toNat 110 : Int) = 110 := rfl
      simp only [List.append_assoc, List.cons_append, List.nil_append] at ih' ⊢
      rw [lp_round]
      simp (maxSteps := 4000000) -implicitDefEqProofs (disch := (refine id_ok ?_; first | assumption | omega | (simp [go_sem] <;> omega) | with_unfolding_all rfl | decide)) only [go_sem, Nat.reduceAdd, Nat.reduceSub, Nat.reduceMul, Nat.reduceLeDiff, Nat.reduceEqDiff, Nat.reduceBEq, reduceIte, reduceCtorEq, hz, hd', hg, hk, Int.reduceBEq, e32, q1, q2, q3, q4, q5, q6, q7, e7, List.append_assoc, List.cons_append, List.nil_append]
      exact ih'
    · rw [show wrd ⟨a1, a2, a3, a4, a5, a6, a7, a8, a9, a10, a11⟩ (low 100) = Lib.itoa a6 from rfl] at ih' hwp ⊢
      have hk : (UInt8.toNat 100 : Int) = 100 := rfl
      simp only [List.append_assoc, List.cons_append, List.nil_append] at ih' ⊢
      rw [lp_round]
      simp (maxSteps := 4000000) -implicitDefEqProofs (disch := (refine id_ok ?_; first | assumption | omega | (simp [go_sem] <;> omega) | with_unfolding_all rfl | decide)) only [go_sem, Nat.reduceAdd, Nat.reduceSub, Nat.reduceMul, Nat.reduceLeDiff, Nat.reduceEqDiff, Nat.reduceBEq, reduceIte, reduceCtorEq, hz, hd', hg, hk, Int.reduceBEq, e32, q1, q2, q3, q4, q5, q6, q7, e7, List.append_assoc, List.cons_append, List.nil_append]
      exact ih'
    · rw [show wrd ⟨a1, a2, a3, a4, a5, a6, a7, a8, a9, a10, a11⟩ (low 109) = Lib.itoa a7 from rfl] at ih' hwp ⊢
      have hk : (UInt8.toNat 109 : Int) = 109 := rfl
      simp only [List.append_assoc, List.cons_append, List.nil_append] at ih' ⊢
      rw [lp_round]
      simp (maxSteps := 4000000) -implicitDefEqProofs (disch := (refine id_ok ?_; first | assumption | omega | (simp [go_sem] <;> omega) | with_unfolding_all rfl | decide)) only [go_sem, Nat.reduceAdd, Nat.reduceSub, Nat.reduceMul, Nat.reduceLeDiff, Nat.reduceEqDiff, Nat.reduceBEq, reduceIte, reduceCtorEq, hz, hd', hg, hk, Int.reduceBEq, e32, q1, q2, q3, q4, q5, q6, q7, e7, List.append_assoc, List.cons_append, List.nil_append]
      exact ih'
    · rw [show wrd ⟨a1, a2, a3, a4, a5, a6, a7, a8, a9, a10, a11⟩ (low 111) = ownT a5 from rfl] at ih' hwp ⊢
      have hk : (UInt8.toNat 111 : Int) = 111 := rfl
      simp only [List.append_assoc, List.cons_append, List.nil_append] at ih' ⊢
      rw [lp_round]
      simp (maxSteps := 4000000) -implicitDefEqProofs (disch := (refine id_ok ?_; first | assumption | omega | (simp [go_sem] <;> omega) | with_unfolding_all rfl | decide)) only [go_sem, Nat.reduceAdd, Nat.reduceSub, Nat.reduceMul, Nat.reduceLeDiff, Nat.reduceEqDiff, Nat.reduceBEq, reduceIte, reduceCtorEq, hz, hd', hg, hk, Int.reduceBEq, e32, q1, q2, q3, q4, q5, q6, q7, e7, List.append_assoc, List.cons_append, List.nil_append]
      exact ih'
    · rw [show wrd ⟨a1, a2, a3, a4, a5, a6, a7, a8, a9, a10, a11⟩ (low 116) = bytW a8 from rfl] at ih' hwp ⊢
      have hk : (UInt8.toNat 116 : Int) = 116 := rfl
      unfold bytW at ih' hwp ⊢
      have hhl := hexT_len a8
      by_cases h0 : a8 = []
      · subst h0
        simp only [if_true, List.length_nil, List.map_nil, hexT, List.append_nil] at ih' q8 ⊢
        have ez : (((0 : Nat) : Int) == 0) = true := rfl
        simp only [List.append_assoc, List.cons_append, List.nil_append] at ih' q8 ⊢
        rw [lp_round]
        simp (maxSteps := 4000000) -implicitDefEqProofs (disch := (refine id_ok ?_; first | assumption | omega | (simp [go_sem] <;> omega) | with_unfolding_all rfl | decide)) only [go_sem, Nat.reduceAdd, Nat.reduceSub, Nat.reduceMul, Nat.reduceLeDiff, Nat.reduceEqDiff, Nat.reduceBEq, reduceIte, reduceCtorEq, hz, hd', hg, hk, Int.reduceBEq, e32, e45, q8, ez, e7, List.append_assoc, List.cons_append, List.nil_append]
        exact ih'
      · rw [if_neg h0] at ih' ⊢
        have ez := eqz (n := a8.length) fun e => h0 (List.length_eq_zero_iff.1 e)
        have hml : (a8.map encB).length = a8.length := List.length_map ..
        simp only [List.append_assoc, List.cons_append, List.nil_append] at ih' q8 ⊢
        rw [lp_round]
        simp (maxSteps := 4000000) -implicitDefEqProofs (disch := (refine id_ok ?_; first | assumption | omega | (simp [go_sem] <;> omega) | with_unfolding_all rfl | decide)) only [go_sem, Nat.reduceAdd, Nat.reduceSub, Nat.reduceMul, Nat.reduceLeDiff, Nat.reduceEqDiff, Nat.reduceBEq, reduceIte, reduceCtorEq, hz, hd', hg, hk, Int.reduceBEq, e32, q8, hml, ez, e7, List.append_assoc, List.cons_append, List.nil_append]
        exact ih'
    · rw [show wrd ⟨a1, a2, a3, a4, a5, a6, a7, a8, a9, a10, a11⟩ (low 99) = a9 from rfl] at ih' hwp ⊢
      have hk : (UInt8.toNat 99 : Int) = 99 := rfl
      simp only [List.append_assoc, List.cons_append, List.nil_append] at ih' ⊢
      rw [lp_round]
      simp (maxSteps := 4000000) -implicitDefEqProofs (disch := (refine id_ok ?_; first | assumption | omega | (simp [go_sem] <;> omega) | with_unfolding_all rfl | decide)) only [go_sem, Nat.reduceAdd, Nat.reduceSub, Nat.reduceMul, Nat.reduceLeDiff, Nat.reduceEqDiff, Nat.reduceBEq, reduceIte, reduceCtorEq, hz, hd', hg, hk, Int.reduceBEq, e32, q1, q2, q3, q4, q5, q6, q7, e7, List.append_assoc, List.cons_append, List.nil_append]
      exact ih'
    · have hk : (UInt8.toNat 119 : Int) = 119 := rfl
      cases a11
      · rw [show wrd ⟨a1, a2, a3, a4, a5, a6, a7, a8, a9, a10, false⟩ (low 119) = [114] from rfl] at ih' ⊢
        simp only [List.append_assoc, List.cons_append, List.nil_append] at ih' ⊢
        rw [lp_round]
        simp (maxSteps := 4000000) -implicitDefEqProofs (disch := (refine id_ok ?_; first | assumption | omega | (simp [go_sem] <;> omega) | with_unfolding_all rfl | decide)) only [go_sem, Nat.reduceAdd, Nat.reduceSub, Nat.reduceMul, Nat.reduceLeDiff, Nat.reduceEqDiff, Nat.reduceBEq, reduceIte, reduceCtorEq, hz, hd', hg, hk, Int.reduceBEq, e32, e114, e7, List.append_assoc, List.cons_append, List.nil_append]
        exact ih'
      · rw [show wrd ⟨a1, a2, a3, a4, a5, a6, a7, a8, a9, a10, true⟩ (low 119) = [119] from rfl] at ih' ⊢
        simp only [List.append_assoc, List.cons_append, List.nil_append] at ih' ⊢
        rw [lp_round]
        simp (maxSteps := 4000000) -implicitDefEqProofs (disch := (refine id_ok ?_; first | assumption | omega | (simp [go_sem] <;> omega) | with_unfolding_all rfl | decide)) only [go_sem, Nat.reduceAdd, Nat.reduceSub, Nat.reduceMul, Nat.reduceLeDiff, Nat.reduceEqDiff, Nat.reduceBEq, reduceIte, reduceCtorEq, hz, hd', hg, hk, Int.reduceBEq, e32, e119, e7, List.append_assoc, List.cons_append, List.nil_append]
        exact ih'
theorem flat_join (c : Cal) : nmT c.op ++ (pS c.op).flatMap (oneT c) = Lib.join (wrdsC c) [32] := by
  unfold wrdsC
  rw [Lib.join_cons, fS_pS, List.map_map]
  congr 1
  unfold Lib.joinTail
  rw [List.flatMap_def, List.map_map]
  rfl
theorem rtext_run {c : Cal} (hc : okC c) (hcat : c.cat.length ≤ 1000000000) (ho : ∀ s ∈ c.own, s.length ≤ 1000000000) (he : ∀ e ∈ c.ent, e.1.length ≤ 1000000000) (hlb : ∀ e ∈ c.lab, e.1.length ≤ 1000000000) : run T 11 [.agg (encC c)] [] = some (.str ⟨(cTxt c).toArray⟩, []) := by
  have q1 := rright_run hc hcat ho he hlb
  rw [← rig_ref] at q1
  have q2 := rname_run (op := c.op)
  have q3 := rparts_run (op := c.op)
  rw [run_code T_11]
  unfold cTxt
  cases hr : rigCal c with
  | false =>
    rw [hr] at q1
    rw [if_neg (by simp)]
    clear hc hcat ho he hlb
    obtain ⟨a1, a2, a3, a4, a5, a6, a7, a8, a9, a10, a11⟩ := c
    simp only [encC] at q1 ⊢
    simp (maxSteps := 4000000) -implicitDefEqProofs (disch := (refine id_ok ?_; first | assumption | omega | (simp [go_sem] <;> omega) | with_unfolding_all rfl | decide)) only [go_sem, Nat.reduceAdd, Nat.reduceSub, Nat.reduceMul, Nat.reduceLeDiff, Nat.reduceEqDiff, Nat.reduceBEq, reduceIte, reduceCtorEq, c_regencyref37_Text, q1, Bool.not_false]
  | true =>
    rw [hr] at q1
    rw [if_pos rfl]
    obtain ⟨p1, p2⟩ := pS_fit c.op
    have hn := nmT_len c.op
    have q4 := rtxt_loop hr p1 p2 (pS c.op).length 0 (nmT c.op) (by omega) (by omega)
    simp only [show ((0 : Nat) : Int) = 0 from rfl, List.drop_zero] at q4
    rw [flat_join] at q4
    generalize Lib.join (wrdsC c) [32] = J at *
    clear hc hr hcat ho he hlb p1 p2
    obtain ⟨a1, a2, a3, a4, a5, a6, a7, a8, a9, a10, a11⟩ := c
    simp only [encC] at q1 q2 q3 q4 ⊢
    simp (maxSteps := 4000000) -implicitDefEqProofs (disch := (refine id_ok ?_; first | assumption | omega | (simp [go_sem] <;> omega) | with_unfolding_all rfl | decide)) only [go_sem, Nat.reduceAdd, Nat.reduceSub, Nat.reduceMul, Nat.reduceLeDiff, Nat.reduceEqDiff, Nat.reduceBEq, reduceIte, reduceCtorEq, c_regencyref37_Text, q1, q2, q3, q4, Bool.not_true]
end Go.Proofs.YtibchilpaaiecaaGreatDoor.L
