/- Speech: what its laws ask first; SpeechTells's function. -/
import Derived.Test.YtibchilpaaiecaaGreatDoorL132
import Derived.KernelRfl
set_option linter.all false
set_option maxRecDepth 100000
set_option maxHeartbeats 32000000
namespace Go.Proofs.YtibchilpaaiecaaGreatDoor.L
open Go.Proofs.YtibchilpaaiecaaGreatDoor.M Go.Proofs.YtibchilpaaiecaaGreatDoor.F Go.Proofs
theorem first37 : run U 6 [] [] = some (.bool true, []) := run_of (n := 300) (by kernel_rfl)
def smC (c : Cal) : Prop := (∀ e ∈ c.lab, e.1.length ≤ 1000000000) ∧ (∀ e ∈ c.ent, e.1.length ≤ 1000000000) ∧ (∀ s ∈ c.own, s.length ≤ 1000000000) ∧ c.lab.length ≤ 1000000000 ∧ c.ent.length ≤ 1000000000
theorem smC_sh {c : Cal} (h : smC c) : shC c :=
  ⟨fun e he => by have := h.1 e he; omega, fun e he => by have := h.2.1 e he; omega, fun e he => by have := h.2.2.1 e he; omega, by have := h.2.2.2.1; omega, by have := h.2.2.2.2; omega⟩
theorem tells37_run {c : Cal} {op : Int} (hc : smC c) : run U 3 [.agg (encC c), .int .i64 op] [] = some (.bool true, []) := by
  have g1 := upU (great_run (smC_sh hc).2.2.2.1 (smC_sh hc).2.2.2.2)
  rw [run_code (show U 3 = some (.code c_regencylaw37_SpeechTells) from rfl)]
  cases hg : grC c with
  | true =>
    rw [hg] at g1
    obtain ⟨a1, a2, a3, a4, a5, a6, a7, a8, a9, a10, a11⟩ := c
    simp only [encC] at g1 ⊢
    simp (maxSteps := 4000000) -implicitDefEqProofs (disch := (refine id_ok ?_; first | assumption | omega | (simp [go_sem] <;> omega) | with_unfolding_all rfl | decide)) only [go_sem, Nat.reduceAdd, Nat.reduceSub, Nat.reduceMul, Nat.reduceLeDiff, Nat.reduceEqDiff, Nat.reduceBEq, reduceIte, reduceCtorEq, c_regencylaw37_SpeechTells, first37, g1, Bool.not_true]
  | false =>
    rw [hg] at g1
    have okc := okC_of hg (smC_sh hc)
    have hcat := (grC_false hg).2.2.2.2.2
    have q1 := upU (name_run (op := op))
    have q2 := upU (rname_run (op := op))
    have q3 := text_run okc
    have q4 := upU (rtext_run okc (by omega) hc.2.2.1 hc.2.1 hc.1)
    have e1 : (nmT op == nmT op) = true := by simp
    have e2 : (cTxt c == cTxt c) = true := by simp
    clear hc hg okc hcat
    generalize cTxt c = tx at *
    generalize nmT op = nm at *
    obtain ⟨a1, a2, a3, a4, a5, a6, a7, a8, a9, a10, a11⟩ := c
    simp only [encC] at g1 q3 q4 ⊢
    simp (maxSteps := 4000000) -implicitDefEqProofs (disch := (refine id_ok ?_; first | assumption | omega | (simp [go_sem] <;> omega) | with_unfolding_all rfl | decide)) only [go_sem, Nat.reduceAdd, Nat.reduceSub, Nat.reduceMul, Nat.reduceLeDiff, Nat.reduceEqDiff, Nat.reduceBEq, reduceIte, reduceCtorEq, c_regencylaw37_SpeechTells, first37, g1, q1, q2, q3, q4, e1, e2, Bool.not_true]
end Go.Proofs.YtibchilpaaiecaaGreatDoor.L
