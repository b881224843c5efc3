/- Calls: put, as bytes. -/
import Derived.Test.YtlcflpanellbfaaGreatDoorL106
set_option linter.all false
set_option maxRecDepth 100000
set_option maxHeartbeats 32000000
namespace Go.Proofs.YtlcflpanellbfaaGreatDoor.L
open Go.Proofs.YtlcflpanellbfaaGreatDoor.M Go.Proofs.YtlcflpanellbfaaGreatDoor.F Go.Proofs
def bytLb (l : List Ent) : List UInt8 := num l.length ++ l.flatMap enE1
def byP (c : Cal) (p : Int) : List UInt8 :=
  if p = 0 then bytA c.at_ else if p = 1 then bytLb c.lab else if p = 2 then num c.n.toNat else if p = 3 then num c.m.toNat else if p = 4 then bytLb c.ent else if p = 5 then bytO c.own else
  if p = 6 then num c.text.length ++ c.text else if p = 7 then num c.cat.length ++ c.cat else if p = 8 then bytA c.seg else if p = 9 then numF c.write else if p = 10 then num (c.n + 1048576).toNat else []
theorem rigL_all {l : List Ent} (h : rigL l = true) : l.length ≤ 8 ∧ ∀ e ∈ l, e.1.length ≤ 60 ∧ 0 ≤ e.2 ∧ e.2 < 4 := by
  simp only [rigL, Bool.and_eq_true, decide_eq_true_eq] at h
  exact ⟨h.1, fun e he => by have := rigE_all _ _ h.2 e he; omega⟩
theorem pputp_run {c : Cal} {p : Int} {w : Nat} {b : List UInt8} {H : AH} (hw : H[w]? = some (Pn b)) (hp : 0 ≤ p ∧ p ≤ 10) (hr : rgP c p = true) (hb : b.length ≤ 9000) :
    run T 41 [.int .i64 p, .box w 0, .agg (encC c)] H = some (.tup [], H.set w (Pn (b ++ byP c p))) := by
  have hlt : w < H.length := (List.getElem?_eq_some_iff.1 hw).1
  have hw' : ∀ X : Bx, (H ++ [X])[w]? = some (Pn b) := fun X => by rw [List.getElem?_append_left hlt]; exact hw
  have gH : ∀ X : Bx, (H ++ [X])[H.length]? = some X := fun X => by rw [List.getElem?_append_right (Nat.le_refl _)]; simp
  have sH : ∀ X Y : Bx, (H ++ [X]).set w Y = H.set w Y ++ [X] := fun X Y => List.set_append_left _ _ hlt
  rw [run_code T_41]
  have key : ∀ (X : Bx) (l : List UInt8) (r : AV), r.mr = 0 → gc H r (H.set w (Pn l) ++ [X]) = some (r, H.set w (Pn l)) := fun X l r hr => gc_dropS hr mrB_Pn
  rcases p_cases hp with rfl | rfl | rfl | rfl | rfl | rfl | rfl | rfl | rfl | rfl | rfl
  all_goals simp only [rgP, byP, Int.reduceEq, if_true, if_false, reduceIte] at hr ⊢
  · have q := pput_run (l := c.at_) (hw' (.cells (encC c))) (by have := (rigP_all hr).1; omega) hb
    rw [sH] at q
    obtain ⟨a1, a2, a3, a4, a5, a6, a7, a8, a9, a10, a11⟩ := c
    simp only [encC] at q ⊢
    simp (maxSteps := 4000000) -implicitDefEqProofs (disch := (refine id_ok ?_; first | assumption | omega | (simp [go_sem] <;> omega) | with_unfolding_all rfl | decide)) only [go_sem, Nat.reduceAdd, Nat.reduceSub, Nat.reduceMul, Nat.reduceLeDiff, Nat.reduceEqDiff, Nat.reduceBEq, reduceIte, reduceCtorEq, c_call_part_put, Int.reduceBEq, gH, q]
    exact key _ _ _ rfl
  · have q := lput_run (l := c.lab) (hw' (.cells (encC c))) (fun e he => by have := (rigL_all hr).2 e he; omega) (by have := (rigL_all hr).1; omega) (by omega)
    rw [sH, List.append_assoc, show num c.lab.length ++ c.lab.flatMap enE1 = bytLb c.lab from rfl] at q
    obtain ⟨a1, a2, a3, a4, a5, a6, a7, a8, a9, a10, a11⟩ := c
    simp only [encC] at q ⊢
    simp (maxSteps := 4000000) -implicitDefEqProofs (disch := (refine id_ok ?_; first | assumption | omega | (simp [go_sem] <;> omega) | with_unfolding_all rfl | decide)) only [go_sem, Nat.reduceAdd, Nat.reduceSub, Nat.reduceMul, Nat.reduceLeDiff, Nat.reduceEqDiff, Nat.reduceBEq, reduceIte, reduceCtorEq, c_call_part_put, Int.reduceBEq, gH, q]
    exact key _ _ _ rfl
  · obtain ⟨k, hk⟩ : ∃ k : Nat, c.n = k := ⟨c.n.toNat, by have := okN_iff.1 hr; omega⟩
    have q := pnum_run (n := k) (hw' (.cells (encC c))) (by have := okN_iff.1 hr; omega) (by omega)
    rw [sH] at q
    obtain ⟨a1, a2, a3, a4, a5, a6, a7, a8, a9, a10, a11⟩ := c
    simp only at hk
    subst hk
    simp only [encC, Int.toNat_natCast] at q ⊢
    simp (maxSteps := 4000000) -implicitDefEqProofs (disch := (refine id_ok ?_; first | assumption | omega | (simp [go_sem] <;> omega) | with_unfolding_all rfl | decide)) only [go_sem, Nat.reduceAdd, Nat.reduceSub, Nat.reduceMul, Nat.reduceLeDiff, Nat.reduceEqDiff, Nat.reduceBEq, reduceIte, reduceCtorEq, c_call_part_put, Int.reduceBEq, gH, q]
    exact key _ _ _ rfl
  · obtain ⟨k, hk⟩ : ∃ k : Nat, c.m = k := ⟨c.m.toNat, by have := okN_iff.1 hr; omega⟩
    have q := pnum_run (n := k) (hw' (.cells (encC c))) (by have := okN_iff.1 hr; omega) (by omega)
    rw [sH] at q
    obtain ⟨a1, a2, a3, a4, a5, a6, a7, a8, a9, a10, a11⟩ := c
    simp only at hk
    subst hk
    simp only [encC, Int.toNat_natCast] at q ⊢
    simp (maxSteps := 4000000) -implicitDefEqProofs (disch := (refine id_ok ?_; first | assumption | omega | (simp [go_sem] <;> omega) | with_unfolding_all rfl | decide)) only [go_sem, Nat.reduceAdd, Nat.reduceSub, Nat.reduceMul, Nat.reduceLeDiff, Nat.reduceEqDiff, Nat.reduceBEq, reduceIte, reduceCtorEq, c_call_part_put, Int.reduceBEq, gH, q]
    exact key _ _ _ rfl
  · have q := lput_run (l := c.ent) (hw' (.cells (encC c))) (fun e he => by have := (rigL_all hr).2 e he; omega) (by have := (rigL_all hr).1; omega) (by omega)
    rw [sH, List.append_assoc, show num c.ent.length ++ c.ent.flatMap enE1 = bytLb c.ent from rfl] at q
    obtain ⟨a1, a2, a3, a4, a5, a6, a7, a8, a9, a10, a11⟩ := c
    simp only [encC] at q ⊢
    simp (maxSteps := 4000000) -implicitDefEqProofs (disch := (refine id_ok ?_; first | assumption | omega | (simp [go_sem] <;> omega) | with_unfolding_all rfl | decide)) only [go_sem, Nat.reduceAdd, Nat.reduceSub, Nat.reduceMul, Nat.reduceLeDiff, Nat.reduceEqDiff, Nat.reduceBEq, reduceIte, reduceCtorEq, c_call_part_put, Int.reduceBEq, gH, q]
    exact key _ _ _ rfl
  · have q := oput_run (l := c.own) (hw' (.cells (encC c))) (rigO_all hr).1 (fun s hs => ((rigO_all hr).2 s hs).2) (by omega)
    rw [sH] at q
    obtain ⟨a1, a2, a3, a4, a5, a6, a7, a8, a9, a10, a11⟩ := c
    simp only [encC] at q ⊢
    simp (maxSteps := 4000000) -implicitDefEqProofs (disch := (refine id_ok ?_; first | assumption | omega | (simp [go_sem] <;> omega) | with_unfolding_all rfl | decide)) only [go_sem, Nat.reduceAdd, Nat.reduceSub, Nat.reduceMul, Nat.reduceLeDiff, Nat.reduceEqDiff, Nat.reduceBEq, reduceIte, reduceCtorEq, c_call_part_put, Int.reduceBEq, gH, q]
    exact key _ _ _ rfl
  · have q := ptext_run (s := c.text) (hw' (.cells (encC c))) (by have := of_decide_eq_true hr; omega)
    rw [sH, List.append_assoc] at q
    obtain ⟨a1, a2, a3, a4, a5, a6, a7, a8, a9, a10, a11⟩ := c
    simp only [encC] at q ⊢
    simp (maxSteps := 4000000) -implicitDefEqProofs (disch := (refine id_ok ?_; first | assumption | omega | (simp [go_sem] <;> omega) | with_unfolding_all rfl | decide)) only [go_sem, Nat.reduceAdd, Nat.reduceSub, Nat.reduceMul, Nat.reduceLeDiff, Nat.reduceEqDiff, Nat.reduceBEq, reduceIte, reduceCtorEq, c_call_part_put, Int.reduceBEq, gH, q]
    exact key _ _ _ rfl
  · have q := ptext_run (s := c.cat) (hw' (.cells (encC c))) (by have := rigC_len hr; omega)
    rw [sH, List.append_assoc] at q
    obtain ⟨a1, a2, a3, a4, a5, a6, a7, a8, a9, a10, a11⟩ := c
    simp only [encC] at q ⊢
    simp (maxSteps := 4000000) -implicitDefEqProofs (disch := (refine id_ok ?_; first | assumption | omega | (simp [go_sem] <;> omega) | with_unfolding_all rfl | decide)) only [go_sem, Nat.reduceAdd, Nat.reduceSub, Nat.reduceMul, Nat.reduceLeDiff, Nat.reduceEqDiff, Nat.reduceBEq, reduceIte, reduceCtorEq, c_call_part_put, Int.reduceBEq, gH, q]
    exact key _ _ _ rfl
  · have q := pput_run (l := c.seg) (hw' (.cells (encC c))) (by have := (rigP_all hr).1; omega) hb
    rw [sH] at q
    obtain ⟨a1, a2, a3, a4, a5, a6, a7, a8, a9, a10, a11⟩ := c
    simp only [encC] at q ⊢
    simp (maxSteps := 4000000) -implicitDefEqProofs (disch := (refine id_ok ?_; first | assumption | omega | (simp [go_sem] <;> omega) | with_unfolding_all rfl | decide)) only [go_sem, Nat.reduceAdd, Nat.reduceSub, Nat.reduceMul, Nat.reduceLeDiff, Nat.reduceEqDiff, Nat.reduceBEq, reduceIte, reduceCtorEq, c_call_part_put, Int.reduceBEq, gH, q]
    exact key _ _ _ rfl
  · have q := pflag_run (v := c.write) (hw' (.cells (encC c))) (by omega)
    rw [sH] at q
    obtain ⟨a1, a2, a3, a4, a5, a6, a7, a8, a9, a10, a11⟩ := c
    simp only [encC] at q ⊢
    simp (maxSteps := 4000000) -implicitDefEqProofs (disch := (refine id_ok ?_; first | assumption | omega | (simp [go_sem] <;> omega) | with_unfolding_all rfl | decide)) only [go_sem, Nat.reduceAdd, Nat.reduceSub, Nat.reduceMul, Nat.reduceLeDiff, Nat.reduceEqDiff, Nat.reduceBEq, reduceIte, reduceCtorEq, c_call_part_put, Int.reduceBEq, gH, q]
    exact key _ _ _ rfl
  · simp only [Bool.and_eq_true, decide_eq_true_eq] at hr
    obtain ⟨k, hk⟩ : ∃ k : Nat, c.n + 1048576 = k := ⟨(c.n + 1048576).toNat, by omega⟩
    have q := pnum_run (n := k) (hw' (.cells (encC c))) (by omega) (by omega)
    have e1 : IntKind.i64.wrap (c.n + 1048576) = (k : Int) := by rw [hk, w64 (by omega) (by omega)]
    rw [sH] at q
    rw [hk]
    obtain ⟨a1, a2, a3, a4, a5, a6, a7, a8, a9, a10, a11⟩ := c
    simp only [encC, Int.toNat_natCast] at q e1 ⊢
    simp (maxSteps := 4000000) -implicitDefEqProofs (disch := (refine id_ok ?_; first | assumption | omega | (simp [go_sem] <;> omega) | with_unfolding_all rfl | decide)) only [go_sem, Nat.reduceAdd, Nat.reduceSub, Nat.reduceMul, Nat.reduceLeDiff, Nat.reduceEqDiff, Nat.reduceBEq, reduceIte, reduceCtorEq, c_call_part_put, Int.reduceBEq, gH, e1, q]
    exact key _ _ _ rfl
theorem numZ_len {n : Int} (h : 0 ≤ n ∧ n ≤ 4611686018427387903) : (num n.toNat).length ≤ 9 := num_len (by omega)
theorem bytLb_len {l : List Ent} (h : rigL l = true) : (bytLb l).length ≤ 700 := by
  obtain ⟨h1, h2⟩ := rigL_all h
  have h3 := flatMap_len (f := enE1) (k := 80) l fun e he => by
    obtain ⟨q1, q2, q3⟩ := h2 e he
    have a1 := num_len (n := e.1.length) (by omega)
    have a2 := num_len (n := e.2.toNat) (by omega)
    simp only [enE1, List.length_append]; omega
  have h4 := num_len (n := l.length) (by omega)
  unfold bytLb; rw [List.length_append]; omega
theorem bytO_len {l : List (List UInt8)} (h : rigO l = true) : (bytO l).length ≤ 700 := by
  obtain ⟨h1, h2⟩ := rigO_all h
  have h3 := flatMap_len (f := enS1) (k := 69) l fun e he => by
    have q := (h2 e he).2
    have a1 := num_len (n := e.length) (by omega)
    simp only [enS1, List.length_append]; omega
  have h4 := num_len (n := l.length) (by omega)
  unfold bytO; rw [List.length_append]; omega
theorem byP_len {c : Cal} {p : Int} (hp : 0 ≤ p ∧ p ≤ 10) (hr : rgP c p = true) : (byP c p).length ≤ 1000 := by
  rcases p_cases hp with rfl | rfl | rfl | rfl | rfl | rfl | rfl | rfl | rfl | rfl | rfl
  all_goals simp only [rgP, byP, Int.reduceEq, if_true, if_false, reduceIte] at hr ⊢
  · have h1 := (rigP_all hr).1
    have := bytA_len c.at_ (by omega); omega
  · have := bytLb_len hr; omega
  · have := okN_iff.1 hr; have := numZ_len (n := c.n) (by omega); omega
  · have := okN_iff.1 hr; have := numZ_len (n := c.m) (by omega); omega
  · have := bytLb_len hr; omega
  · have := bytO_len hr; omega
  · have h1 := of_decide_eq_true hr
    have := num_len (n := c.text.length) (by omega); rw [List.length_append]; omega
  · have h1 := rigC_len hr
    have := num_len (n := c.cat.length) (by omega); rw [List.length_append]; omega
  · have h1 := (rigP_all hr).1
    have := bytA_len c.seg (by omega); omega
  · have := num_len (n := if c.write = true then 1 else 0) (by split <;> omega)
    unfold numF; omega
  · simp only [Bool.and_eq_true, decide_eq_true_eq] at hr
    have := numZ_len (n := c.n + 1048576) (by omega); omega
end Go.Proofs.YtlcflpanellbfaaGreatDoor.L
/- Calls: put whole, as bytes. -/
set_option linter.all false
set_option maxRecDepth 100000
set_option maxHeartbeats 32000000
namespace Go.Proofs.YtlcflpanellbfaaGreatDoor.L
open Go.Proofs.YtlcflpanellbfaaGreatDoor.M Go.Proofs.YtlcflpanellbfaaGreatDoor.F Go.Proofs
theorem cput_loop {c : Cal} {ps : List Int} {w k : Nat} (hr : ∀ p ∈ ps, 0 ≤ p ∧ p ≤ 10) (hg : ∀ p ∈ ps, rgP c p = true) (hn : ps.length ≤ 6) (hwk : w ≠ k) : ∀ (d i : Nat) (b : List UInt8) (H : AH), d + i = ps.length → H[w]? = some (Pn b) → H[k]? = some (.cells (encC c)) → b.length ≤ 1000 + 1000 * i →
    den U (.loop l_call_Put_0) (s_call_Put_0 (.box w 0) (.box k 0) (.sl .ex (ps.map encI)) (.int .i64 ps.length) (.int .i64 i)) H = some (.exit 0, x_call_Put_0, H.set w (Pn (b ++ (ps.drop i).flatMap (byP c)))) := by
  intro d
  induction d with
  | zero =>
    intro i b H hd hw hk hb
    have hd' : decide ((i : Int) < ps.length) = false := decide_eq_false (by omega)
    rw [List.drop_eq_nil_of_le (by omega), List.flatMap_nil, List.append_nil, set_same hw]
    rw [lp_round]
    simp -implicitDefEqProofs (disch := (refine id_ok ?_; first | assumption | omega | (simp [go_sem] <;> omega) | with_unfolding_all rfl | decide)) only [go_sem, Nat.reduceAdd, Nat.reduceSub, Nat.reduceMul, Nat.reduceLeDiff, Nat.reduceEqDiff, Nat.reduceBEq, reduceIte, reduceCtorEq, hd']
  | succ d ih =>
    intro i b H hd hw hk hb
    have hlt : w < H.length := (List.getElem?_eq_some_iff.1 hw).1
    have hib : i < ps.length := by omega
    have hd' : decide ((i : Int) < ps.length) = true := decide_eq_true (by omega)
    have hge : (ps.map encI)[(i : Int).toNat]? = some (encI ps[i]) := by simp [hib]
    have hdr : ps.drop i = ps[i] :: ps.drop (i + 1) := List.drop_eq_getElem_cons hib
    have e7 := incP (n := i) (by omega)
    have hp := hr ps[i] (by simp)
    have hgp := hg ps[i] (by simp)
    rw [hdr, List.flatMap_cons, ← List.append_assoc]
    generalize ps[i] = p at *
    have h1 := upU (pputp_run hw hp hgp (by omega))
    have hl := byP_len hp hgp
    have ih' := ih (i + 1) (b ++ byP c p) (H.set w (Pn (b ++ byP c p))) (by omega) (List.getElem?_set_self hlt) (by rw [List.getElem?_set_ne hwk]; exact hk) (by rw [List.length_append]; omega)
    rw [List.set_set, List.append_assoc] at ih'
    simp only [encI] at hge
    generalize byP c p = q at *
    clear ih hgp hl
    obtain ⟨a1, a2, a3, a4, a5, a6, a7, a8, a9, a10, a11⟩ := c
    simp only [encC] at h1 hk ih' ⊢
    rw [lp_round]
    simp (maxSteps := 2000000) -implicitDefEqProofs (disch := (refine id_ok ?_; first | assumption | omega | (simp [go_sem] <;> omega) | with_unfolding_all rfl | decide)) only [go_sem, Nat.reduceAdd, Nat.reduceSub, Nat.reduceMul, Nat.reduceLeDiff, Nat.reduceEqDiff, Nat.reduceBEq, reduceIte, reduceCtorEq, hd', hge, hk, h1, e7]
    exact ih'
def bytCal (c : Cal) : List UInt8 := if rigCal c = true then num c.op.toNat ++ (pL c.op).flatMap (byP c) else []
theorem rigCal_all {c : Cal} (h : rigCal c = true) : (0 ≤ c.op ∧ c.op ≤ 20) ∧ plC c = c ∧ ∀ p ∈ pL c.op, rgP c p = true := by
  simp only [rigCal, Bool.and_eq_true, decide_eq_true_eq, List.all_eq_true] at h
  exact ⟨⟨h.1.1.1, h.1.1.2⟩, h.1.2, h.2⟩
theorem cput_run {c : Cal} {w : Nat} {b : List UInt8} {H : AH} (hc : okC c) (hw : H[w]? = some (Pn b)) (hb : b.length ≤ 900) :
    run U 10 [.box w 0, .agg (encC c)] H = some (.bool (rigCal c), H.set w (Pn (b ++ bytCal c))) := by
  have hlt : w < H.length := (List.getElem?_eq_some_iff.1 hw).1
  have hw' : ∀ X : Bx, (H ++ [X])[w]? = some (Pn b) := fun X => by rw [List.getElem?_append_left hlt]; exact hw
  have gH : ∀ X : Bx, (H ++ [X])[H.length]? = some X := fun X => by rw [List.getElem?_append_right (Nat.le_refl _)]; simp
  have sH : ∀ X Y : Bx, (H ++ [X]).set w Y = H.set w Y ++ [X] := fun X Y => List.set_append_left _ _ hlt
  have gH2 : ∀ X Y : Bx, (H.set w Y ++ [X])[H.length]? = some X := fun X Y => by rw [List.getElem?_append_right (by simp)]; simp
  have hr0 := right_run hc
  have h4 := upU (parts_run (op := c.op))
  rw [run_code (show U 10 = some (.code c_call_Put) from rfl)]
  unfold bytCal
  cases hr : rigCal c with
  | false =>
    rw [hr] at hr0
    simp only [Bool.false_eq_true, if_false, List.append_nil]
    rw [set_same hw]
    clear hr hc
    obtain ⟨a1, a2, a3, a4, a5, a6, a7, a8, a9, a10, a11⟩ := c
    simp only [encC] at hr0 ⊢
    simp (maxSteps := 4000000) -implicitDefEqProofs (disch := (refine id_ok ?_; first | assumption | omega | (simp [go_sem] <;> omega) | with_unfolding_all rfl | decide)) only [go_sem, Nat.reduceAdd, Nat.reduceSub, Nat.reduceMul, Nat.reduceLeDiff, Nat.reduceEqDiff, Nat.reduceBEq, reduceIte, reduceCtorEq, c_call_Put, gH, hr0, Bool.not_false]
  | true =>
    rw [hr] at hr0
    obtain ⟨ho, hpl, hg⟩ := rigCal_all hr
    simp only [if_true]
    obtain ⟨k, hk⟩ : ∃ k : Nat, c.op = k := ⟨c.op.toNat, by omega⟩
    have n9 := num_len (n := k) (by omega)
    have h1 := upU (pnum_run (n := k) (hw' (.cells (encC c))) (by omega) (by omega))
    have h2 := cput_loop (c := c) (ps := pL c.op) (w := w) (k := H.length) (pL_rng c.op).2 hg (pL_rng c.op).1 (by omega) (pL c.op).length 0 (b ++ num k) ((H ++ [Bx.cells (encC c)]).set w (Pn (b ++ num k))) (by omega) (by rw [List.getElem?_set_self (by simp; omega)]) (by rw [sH]; exact gH2 _ _) (by rw [List.length_append]; omega)
    simp only [show ((0 : Nat) : Int) = 0 from rfl, List.drop_zero] at h2
    rw [List.set_set, sH, sH, List.append_assoc] at h2
    rw [sH] at h1
    rw [hk, Int.toNat_natCast]
    generalize hF : (pL c.op).flatMap (byP c) = Fm at *
    rw [← hk, hF]
    clear hr hc hpl hg
    obtain ⟨a1, a2, a3, a4, a5, a6, a7, a8, a9, a10, a11⟩ := c
    simp only at hk
    subst hk
    simp only [encC] at hr0 h1 h2 h4 ⊢
    generalize pL (k : Int) = ps at *
    simp (maxSteps := 4000000) -implicitDefEqProofs (disch := (refine id_ok ?_; first | assumption | omega | (simp [go_sem] <;> omega) | with_unfolding_all rfl | decide)) only [go_sem, Nat.reduceAdd, Nat.reduceSub, Nat.reduceMul, Nat.reduceLeDiff, Nat.reduceEqDiff, Nat.reduceBEq, reduceIte, reduceCtorEq, c_call_Put, gH, gH2, hr0, h1, h4, h2, List.length_map, Bool.not_true]
    exact gc_dropS rfl mrB_Pn
theorem flat_len {c : Cal} : ∀ (ps : List Int), (∀ p ∈ ps, 0 ≤ p ∧ p ≤ 10) → (∀ p ∈ ps, rgP c p = true) → (ps.flatMap (byP c)).length ≤ 1000 * ps.length
  | [], _, _ => by simp
  | p :: ps, h1, h2 => by
    have a := byP_len (h1 p (by simp)) (h2 p (by simp))
    have b := flat_len ps (fun q hq => h1 q (by simp [hq])) (fun q hq => h2 q (by simp [hq]))
    rw [List.flatMap_cons, List.length_append, List.length_cons]; omega
theorem bytCal_len (c : Cal) : (bytCal c).length ≤ 6010 := by
  unfold bytCal
  split
  · rename_i h
    obtain ⟨ho, _, hg⟩ := rigCal_all h
    have h1 := flat_len (c := c) (pL c.op) (pL_rng c.op).2 hg
    have h2 := (pL_rng c.op).1
    have h3 := num_len (n := c.op.toNat) (by omega)
    rw [List.length_append]; omega
  · simp
theorem cbytes_run {c : Cal} (hc : okC c) : run U 12 [.agg (encC c)] [] = some (ow ((bytCal c).map encB), []) := by
  have h1 := cput_run (c := c) (w := 1) (b := []) (H := [.cells (encC c), Pn []]) hc rfl (by simp)
  rw [List.nil_append, show ([.cells (encC c), Pn []] : AH).set 1 (Pn (bytCal c)) = [.cells (encC c), Pn (bytCal c)] from rfl] at h1
  have h2 := upU (pbytes_run (p := 1) (l := bytCal c) (h := [.cells (encC c), Pn (bytCal c)]) rfl (by have := bytCal_len c; omega))
  rw [run_code (show U 12 = some (.code c_call_Bytes) from rfl)]
  generalize bytCal c = q at *
  generalize rigCal c = r at *
  clear hc
  obtain ⟨a1, a2, a3, a4, a5, a6, a7, a8, a9, a10, a11⟩ := c
  simp only [encC, Pn, List.map_nil] at h1
  simp only [encC] at h2 ⊢
  simp only [Pn] at h2
  simp (maxSteps := 4000000) -implicitDefEqProofs (disch := (refine id_ok ?_; first | assumption | omega | (simp [go_sem] <;> omega) | with_unfolding_all rfl | decide)) only [go_sem, Nat.reduceAdd, Nat.reduceSub, Nat.reduceMul, Nat.reduceLeDiff, Nat.reduceEqDiff, Nat.reduceBEq, reduceIte, reduceCtorEq, c_call_Bytes, h1, h2]
end Go.Proofs.YtlcflpanellbfaaGreatDoor.L
