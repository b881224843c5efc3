/- The calls' laws: what is asked first; what is too great. -/
import Derived.Test.YtlcflpanellbfaaGreatDoorL109
set_option linter.all false
set_option maxRecDepth 100000
set_option maxHeartbeats 32000000
namespace Go.Proofs.YtlcflpanellbfaaGreatDoor.L
open Go.Proofs.YtlcflpanellbfaaGreatDoor.M Go.Proofs.YtlcflpanellbfaaGreatDoor.F Go.Proofs
def exC : Cal := ⟨12, [1, 2], [], [], [], 0, 0, [], [], [], false⟩
theorem num_lt {n : Nat} (h : n < 128) : num n = [UInt8.ofNat n] := by rw [num]; simp [h]
theorem exC_ok : okC exC := by
  have h : shS exC.own := fun e he => by cases he
  exact ⟨by simp [exC], by simp [exC], by simp [exC], by simp [exC], by simp [exC], by simp [exC], (fun e he => by cases he), (fun e he => by cases he), h, by simp [exC]⟩
theorem ex_right : rigCal exC = true := by
  have h1 := right_run exC_ok
  have h2 : run U 9 [.agg (encC exC)] [] = some (.bool true, []) := run_of (n := 300) (by kernel_rfl)
  rw [h1] at h2
  simpa using h2
theorem ex_bytes : bytCal exC = [12, 2, 1, 2] := by
  unfold bytCal
  rw [if_pos ex_right]
  simp [exC, pL, byP, bytA, numA, num_lt]
theorem ex_par : parCal [12, 2, 1, 2] = some exC := by
  have h := getCal_put ex_right []
  rw [List.append_nil, ex_bytes] at h
  unfold parCal
  rw [h]; rfl
theorem bad_par : parCal [12, 7] = none ∧ resCal [12, 7] = .tup [.agg (encC (zeroC 0)), fT callB 10 (er (some 13))] := by
  have h1 : tapN 20 ([12, 7], none) = (12, [7], none) := rfl
  have h2 : gtP ([7], none) = ([], 10, [7], some 13) := rfl
  have h3 : rdCal ([12, 7], none) = (zeroC 12, [7], some 13) := by
    unfold rdCal
    rw [h1]
    show [(0 : Int)].foldl gtS (zeroC 12, [7], none) = _
    rw [List.foldl_cons, List.foldl_nil]
    show ({ zeroC 12 with at_ := (gtP ([7], none)).1 }, (gtP ([7], none)).2.2) = _
    rw [h2]; rfl
  have h4 : getCal ([12, 7], none) = (zeroC 0, 10, [7], some 13) := by
    unfold getCal
    rw [h3, if_neg (by simp)]
  have h5 : parCal [12, 7] = none := by
    unfold parCal
    rw [h4, if_neg (by simp)]
  refine ⟨h5, ?_⟩
  unfold resCal
  rw [h5, h4]; rfl
theorem fp1 {H : AH} : run T 20 [fT callB 10 (er (some 13))] H = some (.int .i64 10, H) := by
  rw [run_code T_20]
  simp (maxSteps := 4000000) -implicitDefEqProofs (disch := (refine id_ok ?_; first | assumption | omega | (simp [go_sem] <;> omega) | with_unfolding_all rfl | decide)) only [go_sem, Nat.reduceAdd, Nat.reduceSub, Nat.reduceMul, Nat.reduceLeDiff, Nat.reduceEqDiff, Nat.reduceBEq, reduceIte, reduceCtorEq, c_fault_Code, fT]
theorem fp2 {H : AH} : run T 21 [fT callB 10 (er (some 13))] H = some (.str callB, H) := by
  rw [run_code T_21]
  simp (maxSteps := 4000000) -implicitDefEqProofs (disch := (refine id_ok ?_; first | assumption | omega | (simp [go_sem] <;> omega) | with_unfolding_all rfl | decide)) only [go_sem, Nat.reduceAdd, Nat.reduceSub, Nat.reduceMul, Nat.reduceLeDiff, Nat.reduceEqDiff, Nat.reduceBEq, reduceIte, reduceCtorEq, c_fault_Place, fT]
theorem fp3 {H : AH} : run T 22 [fT callB 10 (er (some 13)), .int .i64 13] H = some (.bool true, H) := by
  rw [run_code T_22]
  have h : ∀ H : AH, run T 60 [AV.iface 92 (AV.ref [AV.str callB, AV.int IntKind.i64 10, er (some 13)]), AV.iface 40 (AV.int IntKind.i64 13)] H = some (.bool true, H) := fun H => by
    rw [run_prim T_60]; rfl
  simp (maxSteps := 4000000) -implicitDefEqProofs (disch := (refine id_ok ?_; first | assumption | omega | (simp [go_sem] <;> omega) | with_unfolding_all rfl | decide)) only [go_sem, Nat.reduceAdd, Nat.reduceSub, Nat.reduceMul, Nat.reduceLeDiff, Nat.reduceEqDiff, Nat.reduceBEq, reduceIte, reduceCtorEq, c_fault_Has, fT, Int.reduceBEq, h]
theorem first11 : run U 5 [] [] = some (.bool true, []) := by
  have q1 := cbytes_run exC_ok
  rw [ex_bytes] at q1
  have q2 := fun H => cparse_run (b := [12, 2, 1, 2]) (H := H) (by simp)
  have q3 := fun H => cparse_run (b := [12, 7]) (H := H) (by simp)
  rw [bad_par.2] at q3
  simp only [resCal, ex_par] at q2
  have q4 := right_run exC_ok
  rw [ex_right] at q4
  have q5 := upU (same_run (a := exC) (b := exC) exC_ok)
  rw [decide_eq_true rfl] at q5
  have q6 : run U 14 [.agg (encC { zeroC 0 with n := 3 })] [] = some (.agg (encC (zeroC 0)), []) := run_of (n := 300) (by kernel_rfl)
  have q7 := fun H => upU (fp1 (H := H))
  have q8 := fun H => upU (fp2 (H := H))
  have q9 := fun H => upU (fp3 (H := H))
  rw [run_code (show U 5 = some (.code c_regencylaw11_first) from rfl)]
  have hb9 : ([12, 7] : List UInt8).map encB = [[.int .u8 12], [.int .u8 7]] := rfl
  rw [hb9] at q3
  have nE : isnilV .ifc true (fT callB 10 (er (some 13))) = some (.bool true) := rfl
  have sE : (fT callB 10 (er (some 13))).sh = fT callB 10 (er (some 13)) := rfl
  have oE : (fT callB 10 (er (some 13))).one = true := rfl
  have hcb : (callB.toList == [99, 97, 108, 108]) = true := by rw [show callB = ⟨([99, 97, 108, 108] : List UInt8).toArray⟩ from rfl, toList_mk]; rfl
  obtain ⟨s, hs⟩ : ∃ s : List UInt8, s = [12, 2, 1, 2] := ⟨_, rfl⟩
  have hs9 : (s == [12, 2, 1, 2]) = true := by rw [hs]; rfl
  rw [← hs] at q1
  simp only [← hs] at q2
  clear hs
  generalize hE : fT callB 10 (er (some 13)) = E at *
  simp only [encC, exC, zeroC, List.map_cons, encI, List.map_nil] at q1 q2 q3 q4 q5 q6
  simp (maxSteps := 4000000) -implicitDefEqProofs (disch := (refine id_ok ?_; first | assumption | omega | (simp [go_sem] <;> omega) | with_unfolding_all rfl | decide)) only [go_sem, Nat.reduceAdd, Nat.reduceSub, Nat.reduceMul, Nat.reduceLeDiff, Nat.reduceEqDiff, Nat.reduceBEq, reduceIte, reduceCtorEq, c_regencylaw11_first, q1, q2, q3, q4, q5, q6, q7, q8, q9, nE, sE, oE, hs9, hcb, Int.reduceBEq]
def grC (c : Cal) : Bool := decide ((c.at_.length : Int) > 60) || (decide ((c.seg.length : Int) > 60) || (decide (((c.lab.length + c.ent.length : Nat) : Int) > 60) || (decide ((c.own.length : Int) > 60) || (decide ((c.text.length : Int) > 600) || decide ((c.cat.length : Int) > 100)))))
theorem grC_false {c : Cal} (h : grC c = false) : c.at_.length ≤ 60 ∧ c.seg.length ≤ 60 ∧ c.lab.length + c.ent.length ≤ 60 ∧ c.own.length ≤ 60 ∧ c.text.length ≤ 600 ∧ c.cat.length ≤ 100 := by
  simp only [grC, Bool.or_eq_false_iff, decide_eq_false_iff_not] at h
  omega
theorem great_run {c : Cal} (h1 : c.lab.length ≤ 1000000000000) (h2 : c.ent.length ≤ 1000000000000) : run T 6 [.agg (encC c)] [] = some (.bool (grC c), []) := by
  have e1 : IntKind.i64.wrap ((c.lab.length : Int) + (c.ent.length : Int)) = ((c.lab.length + c.ent.length : Nat) : Int) := by rw [w64 (by omega) (by omega)]; omega
  rw [run_code T_6]
  unfold grC
  obtain ⟨a1, a2, a3, a4, a5, a6, a7, a8, a9, a10, a11⟩ := c
  have hz : (⟨a9.toArray⟩ : ByteArray).size = a9.length := by simp [ByteArray.size]
  simp only [encC] at e1 ⊢
  cases d1 : decide ((a2.length : Int) > 60)
  · cases d2 : decide ((a10.length : Int) > 60)
    · cases d3 : decide (((a3.length + a4.length : Nat) : Int) > 60)
      · cases d4 : decide ((a5.length : Int) > 60)
        · cases d5 : decide ((a8.length : Int) > 600)
          · simp (maxSteps := 4000000) -implicitDefEqProofs (disch := (refine id_ok ?_; first | assumption | omega | (simp [go_sem] <;> omega) | with_unfolding_all rfl | decide)) only [go_sem, Nat.reduceAdd, Nat.reduceSub, Nat.reduceMul, Nat.reduceLeDiff, Nat.reduceEqDiff, Nat.reduceBEq, reduceIte, reduceCtorEq, c_regencylaw11_great, List.length_map, d1, d2, d3, d4, d5, e1, hz, Bool.false_or, Bool.true_or]
          · simp (maxSteps := 4000000) -implicitDefEqProofs (disch := (refine id_ok ?_; first | assumption | omega | (simp [go_sem] <;> omega) | with_unfolding_all rfl | decide)) only [go_sem, Nat.reduceAdd, Nat.reduceSub, Nat.reduceMul, Nat.reduceLeDiff, Nat.reduceEqDiff, Nat.reduceBEq, reduceIte, reduceCtorEq, c_regencylaw11_great, List.length_map, d1, d2, d3, d4, d5, e1, hz, Bool.false_or, Bool.true_or]
        · simp (maxSteps := 4000000) -implicitDefEqProofs (disch := (refine id_ok ?_; first | assumption | omega | (simp [go_sem] <;> omega) | with_unfolding_all rfl | decide)) only [go_sem, Nat.reduceAdd, Nat.reduceSub, Nat.reduceMul, Nat.reduceLeDiff, Nat.reduceEqDiff, Nat.reduceBEq, reduceIte, reduceCtorEq, c_regencylaw11_great, List.length_map, d1, d2, d3, d4, e1, Bool.false_or, Bool.true_or]
      · simp (maxSteps := 4000000) -implicitDefEqProofs (disch := (refine id_ok ?_; first | assumption | omega | (simp [go_sem] <;> omega) | with_unfolding_all rfl | decide)) only [go_sem, Nat.reduceAdd, Nat.reduceSub, Nat.reduceMul, Nat.reduceLeDiff, Nat.reduceEqDiff, Nat.reduceBEq, reduceIte, reduceCtorEq, c_regencylaw11_great, List.length_map, d1, d2, d3, e1, Bool.false_or, Bool.true_or]
    · simp (maxSteps := 4000000) -implicitDefEqProofs (disch := (refine id_ok ?_; first | assumption | omega | (simp [go_sem] <;> omega) | with_unfolding_all rfl | decide)) only [go_sem, Nat.reduceAdd, Nat.reduceSub, Nat.reduceMul, Nat.reduceLeDiff, Nat.reduceEqDiff, Nat.reduceBEq, reduceIte, reduceCtorEq, c_regencylaw11_great, List.length_map, d1, d2, e1, Bool.false_or, Bool.true_or]
  · simp (maxSteps := 4000000) -implicitDefEqProofs (disch := (refine id_ok ?_; first | assumption | omega | (simp [go_sem] <;> omega) | with_unfolding_all rfl | decide)) only [go_sem, Nat.reduceAdd, Nat.reduceSub, Nat.reduceMul, Nat.reduceLeDiff, Nat.reduceEqDiff, Nat.reduceBEq, reduceIte, reduceCtorEq, c_regencylaw11_great, List.length_map, d1, Bool.false_or, Bool.true_or]
def shC (c : Cal) : Prop := (∀ e ∈ c.lab, e.1.length ≤ 281474976710656) ∧ (∀ e ∈ c.ent, e.1.length ≤ 281474976710656) ∧ shS c.own ∧ c.lab.length ≤ 1000000000000 ∧ c.ent.length ≤ 1000000000000
theorem okC_of {c : Cal} (h : grC c = false) (hs : shC c) : okC c := by
  obtain ⟨h1, h2, h3, h4, h5, h6⟩ := grC_false h
  exact ⟨by omega, by omega, by omega, by omega, by omega, by omega, hs.1, hs.2.1, hs.2.2.1, by omega⟩
end Go.Proofs.YtlcflpanellbfaaGreatDoor.L
