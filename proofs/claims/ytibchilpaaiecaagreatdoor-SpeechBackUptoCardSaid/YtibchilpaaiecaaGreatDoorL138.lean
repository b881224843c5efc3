/- SpeechBack: what its function comes to. -/
import Derived.Test.YtibchilpaaiecaaGreatDoorL137
import Derived.KernelRfl
set_option linter.all false
set_option maxRecDepth 100000
set_option maxHeartbeats 32000000
namespace Go.Proofs.YtibchilpaaiecaaGreatDoor.L
open Go.Proofs.YtibchilpaaiecaaGreatDoor.M Go.Proofs.YtibchilpaaiecaaGreatDoor.F Go.Proofs
theorem first37b : run U 6 [] [] = some (.bool true, []) := run_of (n := 300) (by kernel_rfl)
theorem eqn0 : binV .neq (.str ⟨#[]⟩) (.str ⟨#[]⟩) = some (.bool false) := by
  rw [show binV .neq (.str ⟨#[]⟩) (.str ⟨#[]⟩) = some (.bool (!((⟨#[]⟩ : ByteArray).toList == (⟨#[]⟩ : ByteArray).toList))) from rfl]
  simp
theorem resT_ok {s : List UInt8} {c : Cal} (h : parT s = .ok c) : resT s = .tup [.agg (encC c), .nili] := by unfold resT; rw [h]
theorem resT_er {s : List UInt8} {e : Int} (h : parT s = .error e) : resT s = .tup [.agg (encC (zeroC 0)), fT spB e .nili] := by unfold resT; rw [h]
theorem back37_run {c : Cal} {s : List UInt8} (hc : shC c) : run U 4 [.agg (encC c), .str ⟨s.toArray⟩] [] = some (.bool true, []) := by
  have g1 := upU (great_run hc.2.2.2.1 hc.2.2.2.2)
  have hz : (⟨s.toArray⟩ : ByteArray).size = s.length := by simp [ByteArray.size]
  rw [run_code (show U 4 = some (.code c_regencylaw37_SpeechBack) from rfl)]
  cases hg : grC c with
  | true =>
    rw [hg] at g1
    obtain ⟨a1, a2, a3, a4, a5, a6, a7, a8, a9, a10, a11⟩ := c
    simp only [encC] at g1 ⊢
    simp (maxSteps := 4000000) -implicitDefEqProofs (disch := (refine id_ok ?_; first | assumption | omega | (simp [go_sem] <;> omega) | with_unfolding_all rfl | decide)) only [go_sem, Nat.reduceAdd, Nat.reduceSub, Nat.reduceMul, Nat.reduceLeDiff, Nat.reduceEqDiff, Nat.reduceBEq, reduceIte, reduceCtorEq, c_regencylaw37_SpeechBack, first37b, g1, Bool.not_true]
  | false =>
    rw [hg] at g1
    by_cases h9 : (s.length : Int) > 900
    · have d1 : decide ((s.length : Int) > 900) = true := decide_eq_true h9
      obtain ⟨a1, a2, a3, a4, a5, a6, a7, a8, a9, a10, a11⟩ := c
      simp only [encC] at g1 ⊢
      simp (maxSteps := 4000000) -implicitDefEqProofs (disch := (refine id_ok ?_; first | assumption | omega | (simp [go_sem] <;> omega) | with_unfolding_all rfl | decide)) only [go_sem, Nat.reduceAdd, Nat.reduceSub, Nat.reduceMul, Nat.reduceLeDiff, Nat.reduceEqDiff, Nat.reduceBEq, reduceIte, reduceCtorEq, c_regencylaw37_SpeechBack, first37b, g1, hz, d1, Bool.not_true]
    · have d1 : decide ((s.length : Int) > 900) = false := decide_eq_false h9
      have okc := okC_of hg hc
      have q1 := right_run okc
      have q2 := text_run okc
      have q3 := fun h => parse37_run (s := s) (h := h) (by omega) fun _ => mkC_ok (by omega)
      have hq4 : rigCal c = true → ∀ h, run U 13 [.str ⟨(cTxt c).toArray⟩] h = some (.tup [.agg (encC c), .nili], h) := fun hr h => by
        have := parse37_run (s := cTxt c) (h := h) (by have := (wrds_len hr).2; unfold cTxt; rw [if_pos hr]; omega) fun _ => by rw [(mkC_txt hr).2]; exact okc
        rw [resT_ok (parT_txt hr)] at this
        exact this
      have q5 := upU (same_run (a := c) (b := c) okc)
      rw [decide_eq_true rfl] at q5
      have h0 : rigCal c = false → cTxt c = [] := fun hr => by unfold cTxt; rw [hr, if_neg (by simp)]
      clear hc hg okc
      cases hp : parT s with
      | error e =>
        have q3 := q3
        rw [resT_er hp] at q3
        obtain ⟨a1, a2, a3, a4, a5, a6, a7, a8, a9, a10, a11⟩ := c
        cases hr : rigCal ⟨a1, a2, a3, a4, a5, a6, a7, a8, a9, a10, a11⟩ with
        | true =>
          have q4 := hq4 hr
          rw [hr] at q1
          clear h0 hq4
          generalize cTxt ⟨a1, a2, a3, a4, a5, a6, a7, a8, a9, a10, a11⟩ = tx at *
          simp only [encC, zeroC, List.map_nil, fT] at g1 q1 q2 q3 q4 q5 ⊢
          simp (maxSteps := 8000000) -implicitDefEqProofs (disch := (refine id_ok ?_; first | assumption | omega | (simp [go_sem] <;> omega) | with_unfolding_all rfl | decide)) only [go_sem, Nat.reduceAdd, Nat.reduceSub, Nat.reduceMul, Nat.reduceLeDiff, Nat.reduceEqDiff, Nat.reduceBEq, reduceIte, reduceCtorEq, c_regencylaw37_SpeechBack, first37b, g1, hz, d1, q1, q2, q3, q4, q5, Bool.not_true]
        | false =>
          have h0 := h0 hr
          rw [hr] at q1
          rw [h0] at q2
          clear hq4
          simp only [encC, zeroC, List.map_nil, fT] at g1 q1 q2 q3 q5 ⊢
          simp (maxSteps := 8000000) -implicitDefEqProofs (disch := (refine id_ok ?_; first | assumption | omega | (simp [go_sem] <;> omega) | with_unfolding_all rfl | decide)) only [go_sem, Nat.reduceAdd, Nat.reduceSub, Nat.reduceMul, Nat.reduceLeDiff, Nat.reduceEqDiff, Nat.reduceBEq, reduceIte, reduceCtorEq, c_regencylaw37_SpeechBack, first37b, g1, hz, d1, q1, q2, q3, q5, eqn0, Bool.not_true]
      | ok x =>
        have q3 := q3
        rw [resT_ok hp] at q3
        obtain ⟨hx1, hx2⟩ := parT_inv hp
        have okx : okC x := by
          have : mkC s = x := by
            unfold parT at hp
            split at hp
            · cases hp
            · split at hp
              · cases hp; rfl
              · cases hp
          rw [← this]; exact mkC_ok (by omega)
        have q6 := text_run okx
        have q7 := right_run okx
        rw [hx1] at q6
        rw [hx2] at q7
        have e1 : (s == s) = true := by simp
        clear hp hx1 hx2 okx
        obtain ⟨a1, a2, a3, a4, a5, a6, a7, a8, a9, a10, a11⟩ := c
        obtain ⟨b1, b2, b3, b4, b5, b6, b7, b8, b9, b10, b11⟩ := x
        cases hr : rigCal ⟨a1, a2, a3, a4, a5, a6, a7, a8, a9, a10, a11⟩ with
        | true =>
          have q4 := hq4 hr
          rw [hr] at q1
          clear h0 hq4
          generalize cTxt ⟨a1, a2, a3, a4, a5, a6, a7, a8, a9, a10, a11⟩ = tx at *
          simp only [encC] at g1 q1 q2 q3 q4 q5 q6 q7 ⊢
          simp (maxSteps := 8000000) -implicitDefEqProofs (disch := (refine id_ok ?_; first | assumption | omega | (simp [go_sem] <;> omega) | with_unfolding_all rfl | decide)) only [go_sem, Nat.reduceAdd, Nat.reduceSub, Nat.reduceMul, Nat.reduceLeDiff, Nat.reduceEqDiff, Nat.reduceBEq, reduceIte, reduceCtorEq, c_regencylaw37_SpeechBack, first37b, g1, hz, d1, q1, q2, q3, q4, q5, q6, q7, e1, Bool.not_true]
        | false =>
          have h0 := h0 hr
          rw [hr] at q1
          rw [h0] at q2
          clear hq4
          simp only [encC] at g1 q1 q2 q3 q5 q6 q7 ⊢
          simp (maxSteps := 8000000) -implicitDefEqProofs (disch := (refine id_ok ?_; first | assumption | omega | (simp [go_sem] <;> omega) | with_unfolding_all rfl | decide)) only [go_sem, Nat.reduceAdd, Nat.reduceSub, Nat.reduceMul, Nat.reduceLeDiff, Nat.reduceEqDiff, Nat.reduceBEq, reduceIte, reduceCtorEq, c_regencylaw37_SpeechBack, first37b, g1, hz, d1, q1, q2, q3, q5, q6, q7, e1, eqn0, Bool.not_true]
end Go.Proofs.YtibchilpaaiecaaGreatDoor.L
