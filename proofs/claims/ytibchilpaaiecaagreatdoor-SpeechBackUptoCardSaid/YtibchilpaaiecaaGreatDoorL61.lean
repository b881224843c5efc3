/- The document's numbers as they are told: of any int. -/
import Derived.Test.YtibchilpaaiecaaGreatDoorL40
import Derived.Test.YtibchilpaaiecaaGreatDoorL57
set_option linter.all false
set_option maxRecDepth 100000
namespace Go.Proofs.YtibchilpaaiecaaGreatDoor.L
open Go.Proofs.YtibchilpaaiecaaGreatDoor.M Go.Proofs.YtibchilpaaiecaaGreatDoor.F Go.Proofs
theorem tail_len64 (u : Nat) (h : u ≤ 9223372036854775808) : (tailD u).length ≤ 19 := by
  have h1 := dec_len 19 u (by omega)
  rw [dec_top] at h1
  simp at h1; omega
theorem td10W {n : Nat} (h : n ≤ 9223372036854775807) : IntKind.i64.wrap ((n : Int).tdiv 10) = ((n / 10 : Nat) : Int) := by
  rw [Int.tdiv_eq_ediv_of_nonneg (by omega), w64 (by omega) (by omega)]; omega
theorem numW_loop {h : AH} : ∀ (u : Nat) (r : List UInt8), u ≤ 9223372036854775807 → (tailD u).length + r.length ≤ 1000 →
    den T (.loop l_regencyref01_num_1) (s_regencyref01_num_1 (.int .i64 u) (.str ⟨r.toArray⟩)) h = some (.exit 2, x_regencyref01_num_2 (.int .i64 (topD u : Nat)) (.str ⟨(tailD u ++ r).toArray⟩), h) := by
  intro u
  induction u using Nat.strongRecOn with
  | _ u ih =>
    intro r hu hr
    rw [lp_round]
    by_cases hc : u < 10
    · have hd : decide ((u : Int) ≥ 10) = false := decide_eq_false (by omega)
      rw [topD, tailD]
      simp -implicitDefEqProofs (disch := (refine id_ok ?_; first | assumption | omega | (simp [go_sem] <;> omega) | with_unfolding_all rfl | decide)) only [go_sem, Nat.reduceAdd, Nat.reduceSub, Nat.reduceMul, Nat.reduceLeDiff, Nat.reduceEqDiff, Nat.reduceBEq, reduceIte, reduceCtorEq, hc, hd, dite_true, List.nil_append]
    · have hd : decide ((u : Int) ≥ 10) = true := decide_eq_true (by omega)
      have hsl := dslc (d := u % 10) (by omega)
      have hi := incN (n := u % 10) (by omega)
      have hq := td10W hu
      rw [tailD, dif_neg hc, List.length_append, List.length_cons, List.length_nil] at hr
      have := ih (u / 10) (by omega) (UInt8.ofNat (48 + u % 10) :: r) (by omega) (by rw [List.length_cons]; omega)
      rw [topD, tailD]
      simp only [hc, dite_false, List.append_assoc, List.singleton_append]
      have e1 : (u : Int).tmod 10 = ((u % 10 : Nat) : Int) := tm10
      simp -implicitDefEqProofs (disch := (refine id_ok ?_; first | assumption | omega | (simp [go_sem] <;> omega) | with_unfolding_all rfl | decide)) only [go_sem, Nat.reduceAdd, Nat.reduceSub, Nat.reduceMul, Nat.reduceLeDiff, Nat.reduceEqDiff, Nat.reduceBEq, reduceIte, reduceCtorEq, hd, e1, hi, hsl, hq, List.cons_append, List.nil_append]
      exact this
theorem numN_loop {h : AH} : ∀ (u : Nat) (r : List UInt8), u ≤ 9223372036854775808 → (tailD u).length + r.length ≤ 1000 →
    den T (.loop l_regencyref01_num_0) (s_regencyref01_num_0 (.int .i64 (-(u : Int))) (.str ⟨r.toArray⟩)) h = some (.exit 0, x_regencyref01_num_0 (.int .i64 (-((topD u : Nat) : Int))) (.str ⟨(tailD u ++ r).toArray⟩), h) := by
  intro u
  induction u using Nat.strongRecOn with
  | _ u ih =>
    intro r hu hr
    rw [lp_round]
    by_cases hc : u < 10
    · have hd : decide (-(u : Int) ≤ -10) = false := decide_eq_false (by omega)
      rw [topD, tailD]
      simp -implicitDefEqProofs (disch := (refine id_ok ?_; first | assumption | omega | (simp [go_sem] <;> omega) | with_unfolding_all rfl | decide)) only [go_sem, Nat.reduceAdd, Nat.reduceSub, Nat.reduceMul, Nat.reduceLeDiff, Nat.reduceEqDiff, Nat.reduceBEq, reduceIte, reduceCtorEq, hc, hd, dite_true, List.nil_append]
    · have hd : decide (-(u : Int) ≤ -10) = true := decide_eq_true (by omega)
      have hsl := dslc (d := u % 10) (by omega)
      have hi := incN (n := u % 10) (by omega)
      have hq : IntKind.i64.wrap ((-(u : Int)).tdiv 10) = -((u / 10 : Nat) : Int) := by
        rw [Int.neg_tdiv, Int.tdiv_eq_ediv_of_nonneg (by omega), w64 (by omega) (by omega)]; omega
      have e1 : IntKind.i64.wrap (0 - (-(u : Int)).tmod 10) = ((u % 10 : Nat) : Int) := by
        rw [Int.neg_tmod, Int.tmod_eq_emod_of_nonneg (by omega), w64 (by omega) (by omega)]; omega
      rw [tailD, dif_neg hc, List.length_append, List.length_cons, List.length_nil] at hr
      have := ih (u / 10) (by omega) (UInt8.ofNat (48 + u % 10) :: r) (by omega) (by rw [List.length_cons]; omega)
      rw [topD, tailD]
      simp only [hc, dite_false, List.append_assoc, List.singleton_append]
      simp -implicitDefEqProofs (disch := (refine id_ok ?_; first | assumption | omega | (simp [go_sem] <;> omega) | with_unfolding_all rfl | decide)) only [go_sem, Nat.reduceAdd, Nat.reduceSub, Nat.reduceMul, Nat.reduceLeDiff, Nat.reduceEqDiff, Nat.reduceBEq, reduceIte, reduceCtorEq, hd, e1, hi, hsl, hq, List.cons_append, List.nil_append]
      exact this
theorem numA_run {n : Int} {h : AH} (h0 : -9223372036854775808 ≤ n) (h1 : n ≤ 9223372036854775807) : run T 76 [.int .i64 n] h = some (.str ⟨(Lib.itoa n).toArray⟩, h) := by
  rw [run_code T_76]
  unfold Lib.itoa
  by_cases hn : n < 0
  · obtain ⟨u, rfl⟩ : ∃ u : Nat, n = -(u : Int) := ⟨n.natAbs, by omega⟩
    have hu : u ≤ 9223372036854775808 := by omega
    have hlp := numN_loop (h := h) u [] hu (by have := tail_len64 u hu; simp; omega)
    have d1 : decide (-(u : Int) < 0) = true := decide_eq_true (by omega)
    have ht := topD_lt u
    have hsl := dslc ht
    have hi := incN (n := topD u) (by omega)
    have htl := tail_len64 u hu
    have e1 : IntKind.i64.wrap (0 - -((topD u : Nat) : Int)) = ((topD u : Nat) : Int) := by rw [w64 (by omega) (by omega)]; omega
    rw [List.append_nil] at hlp
    rw [if_pos hn, show (-(u : Int)).natAbs = u by omega, dec_top]
    simp -implicitDefEqProofs (disch := (refine id_ok ?_; first | assumption | omega | (simp [go_sem] <;> omega) | with_unfolding_all rfl | decide)) only [go_sem, Nat.reduceAdd, Nat.reduceSub, Nat.reduceMul, Nat.reduceLeDiff, Nat.reduceEqDiff, Nat.reduceBEq, reduceIte, reduceCtorEq, c_regencyref01_num, d1, hlp, e1, hi, hsl, List.cons_append, List.nil_append]
  · obtain ⟨u, rfl⟩ : ∃ u : Nat, n = (u : Int) := ⟨n.toNat, by omega⟩
    have hu : u ≤ 9223372036854775807 := by omega
    have hlp := numW_loop (h := h) u [] hu (by have := tail_len64 u (by omega); simp; omega)
    have d1 : decide ((u : Int) < 0) = false := decide_eq_false (by omega)
    have ht := topD_lt u
    have hsl := dslc ht
    have hi := incN (n := topD u) (by omega)
    have htl := tail_len64 u (by omega)
    rw [List.append_nil] at hlp
    rw [if_neg hn, Int.toNat_natCast, dec_top]
    simp -implicitDefEqProofs (disch := (refine id_ok ?_; first | assumption | omega | (simp [go_sem] <;> omega) | with_unfolding_all rfl | decide)) only [go_sem, Nat.reduceAdd, Nat.reduceSub, Nat.reduceMul, Nat.reduceLeDiff, Nat.reduceEqDiff, Nat.reduceBEq, reduceIte, reduceCtorEq, c_regencyref01_num, d1, hlp, hi, hsl, List.cons_append, List.nil_append]
theorem numI_run {n : Int} {h : AH} (h0 : -9223372036854775808 ≤ n) (h1 : n ≤ 9223372036854775807) : run T 34 [.int .i64 n] h = some (.str ⟨(Lib.itoa n).toArray⟩, h) := by
  have h1 := numA_run (h := []) h0 h1
  rw [run_code T_34]
  simp -implicitDefEqProofs (disch := (refine id_ok ?_; first | assumption | omega | (simp [go_sem] <;> omega) | with_unfolding_all rfl | decide)) only [go_sem, Nat.reduceAdd, Nat.reduceSub, Nat.reduceMul, Nat.reduceLeDiff, Nat.reduceEqDiff, Nat.reduceBEq, reduceIte, reduceCtorEq, c_regencyref01_Num, h1]
theorem itoa_len {n : Int} (h0 : -9223372036854775808 ≤ n) (h1 : n ≤ 9223372036854775807) : (Lib.itoa n).length ≤ 21 := by
  unfold Lib.itoa
  split
  · have := dec_len 19 n.natAbs (by omega)
    simp; omega
  · have := dec_len 19 n.toNat (by omega)
    omega
end Go.Proofs.YtibchilpaaiecaaGreatDoor.L
/- Texts: strings joined; labels told, the program's way and the document's. -/
set_option linter.all false
set_option maxRecDepth 100000
namespace Go.Proofs.YtibchilpaaiecaaGreatDoor.L
open Go.Proofs.YtibchilpaaiecaaGreatDoor.M Go.Proofs.YtibchilpaaiecaaGreatDoor.F Go.Proofs
def i64 (n : Int) : Prop := -9223372036854775808 ≤ n ∧ n ≤ 9223372036854775807
theorem decS_T : ∀ (l : List (List UInt8)), M.decS (l.map encT) = some (l.map fun s => (⟨s.toArray⟩ : ByteArray))
  | [] => rfl
  | a :: l => by
    show (M.decS (l.map encT)).map (fun r => (⟨a.toArray⟩ : ByteArray) :: r) = _
    rw [decS_T l]; rfl
theorem join_run {l : List (List UInt8)} {sep : List UInt8} {h : AH} (h1 : l.length ≤ 140737488355328) (h2 : (Lib.join l sep).length ≤ 140737488355328) : run T 29 [.sl .sh (l.map encT), .str ⟨sep.toArray⟩] h = some (.str ⟨(Lib.join l sep).toArray⟩, h) := by
  rw [run_prim T_29]
  have hm : (l.map fun s => (⟨s.toArray⟩ : ByteArray)).map (fun x => x.data.toList) = l := by
    rw [List.map_map]
    conv => rhs; rw [← List.map_id l]
    exact List.map_congr_left fun x _ => by simp
  unfold M.joinP
  simp only [decS_T]
  rw [if_pos ⟨by rw [List.length_map]; exact h1, by rw [hm]; simpa using h2⟩]
  unfold joinB
  rw [hm]
theorem join_le {B : Nat} {sep : List UInt8} : ∀ {l : List (List UInt8)}, (∀ x ∈ l, x.length ≤ B) → (Lib.join l sep).length ≤ l.length * (B + sep.length)
  | [], _ => by simp [Lib.join_nil]
  | x :: r, h => by
    rw [Lib.join_cons, List.length_append]
    have h0 := h x (by simp)
    have key : ∀ r : List (List UInt8), (∀ y ∈ r, y.length ≤ B) → (Lib.joinTail sep r).length ≤ r.length * (B + sep.length) := by
      intro r
      induction r with
      | nil => intro _; simp [Lib.joinTail]
      | cons y r ih =>
        intro hr
        have := ih fun z hz => hr z (by simp [hz])
        have hy := hr y (by simp)
        simp only [Lib.joinTail, List.map_cons, List.flatten_cons, List.length_append, List.length_cons] at this ⊢
        rw [Nat.succ_mul]; omega
    have := key r fun y hy => h y (by simp [hy])
    rw [List.length_cons, Nat.succ_mul]; omega
def lblT (e : Ent) : List UInt8 := e.1 ++ 61 :: Lib.itoa e.2
def labT (l : List Ent) : List UInt8 := if l = [] then [45] else Lib.join (l.map lblT) [44]
def okE (e : Ent) : Prop := e.1.length ≤ 1048576 ∧ i64 e.2
theorem lblT_len {e : Ent} (h : okE e) : (lblT e).length ≤ 1048600 := by
  have := itoa_len h.2.1 h.2.2
  have := h.1
  simp only [lblT, List.length_append, List.length_cons]; omega
theorem eq_61 : (⟨#[61]⟩ : ByteArray) = ⟨[61].toArray⟩ := rfl
set_option maxHeartbeats 4000000 in
theorem ltx_loop {l : List Ent} (hl : ∀ e ∈ l, okE e) (hll : l.length ≤ 1000) : ∀ (d i : Nat) (js : AH) (p : List (List UInt8)), d + i = l.length → p.length ≤ 10000 + i →
    den T (.loop l_label_Text_0) (s_label_Text_0 (ow (p.map encT)) (.sl .sh (l.map encE)) (.int .i64 l.length) (.int .i64 i)) js = some (.exit 0, x_label_Text_0 (ow ((p ++ (l.drop i).map lblT).map encT)), js ++ (l.drop i).map bxE) := by
  intro d
  induction d with
  | zero =>
    intro i js p hd hb
    have hd' : decide ((i : Int) < l.length) = false := decide_eq_false (by omega)
    rw [List.drop_eq_nil_of_le (by omega), List.map_nil, List.append_nil, List.map_nil, List.append_nil]
    rw [lp_round]
    simp -implicitDefEqProofs (disch := (refine id_ok ?_; first | assumption | omega | (simp [go_sem] <;> omega) | with_unfolding_all rfl | decide)) only [go_sem, Nat.reduceAdd, Nat.reduceSub, Nat.reduceMul, Nat.reduceLeDiff, Nat.reduceEqDiff, Nat.reduceBEq, reduceIte, reduceCtorEq, hd']
  | succ d ih =>
    intro i js p hd hb
    have hib : i < l.length := by omega
    have hd' : decide ((i : Int) < l.length) = true := decide_eq_true (by omega)
    have hge : (l.map encE)[(i : Int).toNat]? = some (encE l[i]) := by simp [hib]
    have hdr : l.drop i = l[i] :: l.drop (i + 1) := List.drop_eq_getElem_cons hib
    have hcl := hl l[i] (by simp)
    rw [hdr]
    generalize l[i] = e at *
    obtain ⟨c, v⟩ := e
    have h1 := hcl.1
    have h2 := itoa_len hcl.2.1 hcl.2.2
    have t1 := itoa_run (h := []) hcl.2.1 hcl.2.2
    simp only at h1 h2 t1
    have e7 := incN (n := i) (by omega)
    have ih' := ih (i + 1) (js ++ [bxE (c, v)]) (p ++ [lblT (c, v)]) (by omega) (by simp; omega)
    have hap : (p ++ [lblT (c, v)]).map encT = p.map encT ++ [[.str ⟨(c ++ 61 :: Lib.itoa v).toArray⟩]] := by simp [encT, lblT]
    have hml : (p.map encT).length = p.length := List.length_map ..
    rw [hap] at ih'
    simp only [List.map_cons, List.append_assoc, List.singleton_append] at ih' ⊢
    simp only [bxE, encE] at ih' ⊢
    rw [lp_round]
    simp (maxSteps := 2000000) -implicitDefEqProofs (disch := (refine id_ok ?_; first | assumption | omega | (simp [go_sem] <;> omega) | with_unfolding_all rfl | decide)) only [go_sem, Nat.reduceAdd, Nat.reduceSub, Nat.reduceMul, Nat.reduceLeDiff, Nat.reduceEqDiff, Nat.reduceBEq, reduceIte, reduceCtorEq, hd', hge, encE, app_get0, app_set0, t1, e7, hml]
    exact ih'
theorem ltx_run {l : List Ent} (hl : ∀ e ∈ l, okE e) (hll : l.length ≤ 1000) : run T 59 [.sl .sh (l.map encE)] [] = some (.str ⟨(labT l).toArray⟩, []) := by
  rw [run_code T_59]
  unfold labT
  by_cases h0 : l = []
  · subst h0
    rw [if_pos rfl]
    simp -implicitDefEqProofs (disch := (refine id_ok ?_; first | assumption | omega | (simp [go_sem] <;> omega) | with_unfolding_all rfl | decide)) only [go_sem, Nat.reduceAdd, Nat.reduceSub, Nat.reduceMul, Nat.reduceLeDiff, Nat.reduceEqDiff, Nat.reduceBEq, reduceIte, reduceCtorEq, c_label_Text, List.map_nil, show (((0 : Nat) : Int) == 0) = true from rfl]
  · rw [if_neg h0]
    have hz : ((l.length : Int) == 0) = false := by
      have : l.length ≠ 0 := fun e => h0 (List.length_eq_zero_iff.1 e)
      simp; omega
    have hlp := ltx_loop hl hll l.length 0 [] [] (by omega) (by simp)
    simp only [List.drop_zero, List.map_nil, List.nil_append, show ((0 : Nat) : Int) = 0 from rfl] at hlp
    have hj := fun h => join_run (l := l.map lblT) (sep := [44]) (h := h) (by rw [List.length_map]; omega) (by
      have := join_le (B := 1048600) (sep := [44]) (l := l.map lblT) (fun x hx => by obtain ⟨e, he, rfl⟩ := List.mem_map.1 hx; exact lblT_len (hl e he))
      rw [List.length_map, List.length_singleton] at this
      have : l.length * (1048600 + 1) ≤ 1000 * 1048601 := Nat.mul_le_mul hll (Nat.le_refl _)
      omega)
    have hlb : (l.map encE).length = l.length := List.length_map ..
    generalize l.map lblT = L at *
    simp (maxSteps := 2000000) -implicitDefEqProofs (disch := (refine id_ok ?_; first | assumption | omega | (simp [go_sem] <;> omega) | with_unfolding_all rfl | decide)) only [go_sem, Nat.reduceAdd, Nat.reduceSub, Nat.reduceMul, Nat.reduceLeDiff, Nat.reduceEqDiff, Nat.reduceBEq, reduceIte, reduceCtorEq, c_label_Text, hlb, hz, hlp, hj]
def labF : Bool → List Ent → List UInt8
  | _, [] => []
  | b, e :: r => (if b then [44] else []) ++ (lblT e ++ labF true r)
theorem labF_join : ∀ (l : List Ent), labF true l = Lib.joinTail [44] (l.map lblT)
  | [] => rfl
  | e :: r => by rw [labF, labF_join r]; simp [Lib.joinTail]
theorem labF_labT (l : List Ent) (h : l ≠ []) : labF false l = Lib.join (l.map lblT) [44] := by
  cases l with
  | nil => exact absurd rfl h
  | cons e r => rw [labF, labF_join r, List.map_cons, Lib.join_cons]; simp
theorem labF_len {l : List Ent} (hl : ∀ e ∈ l, okE e) (b : Bool) : (labF b l).length ≤ 1048601 * l.length := by
  induction l generalizing b with
  | nil => simp [labF]
  | cons e r ih =>
    have h1 := ih (fun x hx => hl x (by simp [hx])) true
    have h2 := lblT_len (hl e (by simp))
    rw [labF]
    cases b <;> simp only [List.length_append, List.length_cons, Bool.false_eq_true, if_true, if_false, List.length_nil, Nat.mul_succ] <;> omega
set_option maxHeartbeats 4000000 in
theorem l6tx_loop {l : List Ent} (hl : ∀ e ∈ l, okE e) (hll : l.length ≤ 1000) : ∀ (d i : Nat) (js : AH) (b : List UInt8), d + i = l.length → b.length ≤ 1048601 * i →
    den T (.loop l_regencyref06_Text_0) (s_regencyref06_Text_0 (.str ⟨b.toArray⟩) (.sl .sh (l.map encE)) (.int .i64 l.length) (.int .i64 i)) js = some (.exit 0, x_regencyref06_Text_0 (.str ⟨(b ++ labF (decide (0 < i)) (l.drop i)).toArray⟩), js ++ (l.drop i).map bxE) := by
  intro d
  induction d with
  | zero =>
    intro i js b hd hb
    have hd' : decide ((i : Int) < l.length) = false := decide_eq_false (by omega)
    rw [List.drop_eq_nil_of_le (by omega), labF, List.append_nil, List.map_nil, List.append_nil]
    rw [lp_round]
    simp -implicitDefEqProofs (disch := (refine id_ok ?_; first | assumption | omega | (simp [go_sem] <;> omega) | with_unfolding_all rfl | decide)) only [go_sem, Nat.reduceAdd, Nat.reduceSub, Nat.reduceMul, Nat.reduceLeDiff, Nat.reduceEqDiff, Nat.reduceBEq, reduceIte, reduceCtorEq, hd']
  | succ d ih =>
    intro i js b hd hb
    have hib : i < l.length := by omega
    have hd' : decide ((i : Int) < l.length) = true := decide_eq_true (by omega)
    have hge : (l.map encE)[(i : Int).toNat]? = some (encE l[i]) := by simp [hib]
    have hdr : l.drop i = l[i] :: l.drop (i + 1) := List.drop_eq_getElem_cons hib
    have hcl := hl l[i] (by simp)
    rw [hdr]
    generalize l[i] = e at *
    obtain ⟨c, v⟩ := e
    have h1 := hcl.1
    have h2 := itoa_len hcl.2.1 hcl.2.2
    have t1 := numI_run (h := []) hcl.2.1 hcl.2.2
    simp only at h1 h2 t1
    have e7 := incN (n := i) (by omega)
    have ih' := fun b' hb' => ih (i + 1) (js ++ [bxE (c, v)]) b' (by omega) hb'
    rw [show decide (0 < i + 1) = true from decide_eq_true (by omega)] at ih'
    by_cases h0 : i = 0
    · subst h0
      have ih2 := ih' (b ++ lblT (c, v)) (by simp only [lblT, List.length_append, List.length_cons]; omega)
      simp only [labF, lblT, List.map_cons, List.append_assoc, List.singleton_append, List.cons_append, List.nil_append, show decide (0 < 0) = false from rfl, Bool.false_eq_true, if_false] at ih2 ⊢
      simp only [bxE, encE] at ih2 ⊢
      rw [lp_round]
      simp (maxSteps := 2000000) -implicitDefEqProofs (disch := (refine id_ok ?_; first | assumption | omega | (simp [go_sem] <;> omega) | with_unfolding_all rfl | decide)) only [go_sem, Nat.reduceAdd, Nat.reduceSub, Nat.reduceMul, Nat.reduceLeDiff, Nat.reduceEqDiff, Nat.reduceBEq, reduceIte, reduceCtorEq, hd', hge, encE, app_get0, app_set0, t1, e7, show decide (((0 : Nat) : Int) > 0) = false from rfl]
      exact ih2
    · have h0' : decide (0 < i) = true := decide_eq_true (by omega)
      have hgt : decide ((i : Int) > 0) = true := decide_eq_true (by omega)
      have ih2 := ih' (b ++ 44 :: lblT (c, v)) (by simp only [lblT, List.length_append, List.length_cons]; omega)
      simp only [labF, lblT, h0', List.map_cons, List.append_assoc, List.singleton_append, List.cons_append, List.nil_append, if_true] at ih2 ⊢
      simp only [bxE, encE] at ih2 ⊢
      rw [lp_round]
      simp (maxSteps := 2000000) -implicitDefEqProofs (disch := (refine id_ok ?_; first | assumption | omega | (simp [go_sem] <;> omega) | with_unfolding_all rfl | decide)) only [go_sem, Nat.reduceAdd, Nat.reduceSub, Nat.reduceMul, Nat.reduceLeDiff, Nat.reduceEqDiff, Nat.reduceBEq, reduceIte, reduceCtorEq, hd', hge, encE, app_get0, app_set0, t1, e7, hgt, List.append_assoc, List.cons_append, List.nil_append]
      exact ih2
theorem l6tx_run {l : List Ent} (hl : ∀ e ∈ l, okE e) (hll : l.length ≤ 1000) : run T 33 [.sl .sh (l.map encE)] [] = some (.str ⟨(labT l).toArray⟩, []) := by
  have hlp := l6tx_loop hl hll l.length 0 [] [] (by omega) (by simp)
  simp only [List.drop_zero, List.nil_append, show ((0 : Nat) : Int) = 0 from rfl, show decide (0 < 0) = false from rfl] at hlp
  rw [run_code T_33]
  by_cases h0 : l = []
  · have hn : (labF false l == []) = true := by rw [h0]; rfl
    have hx : labT l = [45] := by unfold labT; rw [if_pos h0]
    rw [hx]
    simp (maxSteps := 2000000) -implicitDefEqProofs (disch := (refine id_ok ?_; first | assumption | omega | (simp [go_sem] <;> omega) | with_unfolding_all rfl | decide)) only [go_sem, Nat.reduceAdd, Nat.reduceSub, Nat.reduceMul, Nat.reduceLeDiff, Nat.reduceEqDiff, Nat.reduceBEq, reduceIte, reduceCtorEq, c_regencyref06_Text, List.length_map, hlp, hn]
  · have hn : (labF false l == []) = false := by
      cases l with
      | nil => exact absurd rfl h0
      | cons e r => simp [labF, lblT]
    have hx : labT l = labF false l := by unfold labT; rw [if_neg h0, labF_labT l h0]
    rw [hx]
    simp (maxSteps := 2000000) -implicitDefEqProofs (disch := (refine id_ok ?_; first | assumption | omega | (simp [go_sem] <;> omega) | with_unfolding_all rfl | decide)) only [go_sem, Nat.reduceAdd, Nat.reduceSub, Nat.reduceMul, Nat.reduceLeDiff, Nat.reduceEqDiff, Nat.reduceBEq, reduceIte, reduceCtorEq, c_regencyref06_Text, List.length_map, hlp, hn]
end Go.Proofs.YtibchilpaaiecaaGreatDoor.L
