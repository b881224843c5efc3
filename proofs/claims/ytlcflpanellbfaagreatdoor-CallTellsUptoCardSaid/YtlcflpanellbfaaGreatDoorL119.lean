/- The document's right calls are the program's. -/
import Derived.Test.YtlcflpanellbfaaGreatDoorL118
import Derived.KernelRfl
set_option linter.all false
set_option maxRecDepth 100000
set_option maxHeartbeats 32000000
namespace Go.Proofs.YtlcflpanellbfaaGreatDoor.L
open Go.Proofs.YtlcflpanellbfaaGreatDoor.M Go.Proofs.YtlcflpanellbfaaGreatDoor.F Go.Proofs
theorem rigP_nil : rigP [] = true := rfl
theorem rigL_nil : rigL [] = true := rfl
theorem rigO_nil : rigO [] = true := rfl
structure RC (c : Cal) (a l e o s t m w : Prop) : Prop where
  at_ : (c.at_ = [] ∨ a) ∧ rigP c.at_ = true
  lab : (c.lab = [] ∨ l) ∧ rigL c.lab = true
  ent : (c.ent = [] ∨ e) ∧ rigL c.ent = true
  own : (c.own = [] ∨ o) ∧ rigO c.own = true
  seg : (c.seg = [] ∨ s) ∧ rigP c.seg = true
  text : (c.text = [] ∨ t) ∧ c.text.length ≤ 256
  m : (c.m = 0 ∨ m) ∧ 0 ≤ c.m ∧ c.m ≤ 1048576
  write : (c.write = false ∨ w) ∧ c.n ≤ 1048576 ∧ -1048576 ≤ c.n
theorem emp {α : Type} (l : List α) : l.isEmpty = true ↔ l = [] := List.isEmpty_iff
theorem refR_iff (c : Cal) : refR c = true ↔ ((0 ≤ c.op ∧ c.op ≤ 20) ∧
    RC c (hasP (pS c.op) 97 = true) (hasP (pS c.op) 108 = true) (hasP (pS c.op) 101 = true) (hasP (pS c.op) 111 = true) (hasP (pS c.op) 115 = true) (hasP (pS c.op) 116 = true) (hasP (pS c.op) 109 = true) (hasP (pS c.op) 119 = true)) ∧
    (if hasP (pS c.op) 99 = true then rigC c.cat = true else c.cat = []) ∧ (if hasP (pS c.op) 110 = true then 0 ≤ c.n else (c.n = 0 ∨ hasP (pS c.op) 100 = true)) := by
  unfold refR fi3 fi4 fi5 fi6 fi7 fi8 fi9 fi10 fi11
  generalize pS c.op = p
  have key : ∀ ok : Bool, fi12 c p ok = true ↔ ok = true ∧ (if hasP p 110 = true then 0 ≤ c.n else (c.n = 0 ∨ hasP p 100 = true)) := fun ok => by
    unfold fi12 fi13
    split
    · simp only [Bool.and_eq_true, decide_eq_true_eq, ge_iff_le]
    · simp only [Bool.and_eq_true, Bool.or_eq_true, beq_iff_eq]
  have key2 : ∀ ok : Bool, (if hasP p 99 = true then fi12 c p (ok && rigC c.cat) else fi12 c p (ok && (c.cat == []))) = true ↔ ok = true ∧ (if hasP p 99 = true then rigC c.cat = true else c.cat = []) ∧ (if hasP p 110 = true then 0 ≤ c.n else (c.n = 0 ∨ hasP p 100 = true)) := fun ok => by
    split
    · rw [key]; simp only [Bool.and_eq_true, and_assoc]
    · rw [key]; simp only [Bool.and_eq_true, and_assoc, beq_iff_eq]
  rw [key2]
  simp only [Bool.and_eq_true, Bool.or_eq_true, decide_eq_true_eq, ge_iff_le, emp, beq_iff_eq, Bool.not_eq_true', and_assoc]
  constructor
  · rintro ⟨o1, o2, a1, a2, l1, l2, e1, e2, w1, w2, s1, s2, t1, t2, m1, m2, m3, r1, r2, r3, x, y⟩
    exact ⟨o1, o2, ⟨⟨a1, a2⟩, ⟨l1, l2⟩, ⟨e1, e2⟩, ⟨w1, w2⟩, ⟨s1, s2⟩, ⟨t1, t2⟩, ⟨m1, m2, m3⟩, ⟨r1, r2, r3⟩⟩, x, y⟩
  · rintro ⟨o1, o2, ⟨⟨a1, a2⟩, ⟨l1, l2⟩, ⟨e1, e2⟩, ⟨w1, w2⟩, ⟨s1, s2⟩, ⟨t1, t2⟩, ⟨m1, m2, m3⟩, ⟨r1, r2, r3⟩⟩, x, y⟩
    exact ⟨o1, o2, a1, a2, l1, l2, e1, e2, w1, w2, s1, s2, t1, t2, m1, m2, m3, r1, r2, r3, x, y⟩
def ltr (p : Int) : Int := if p = 0 then 97 else if p = 1 then 108 else if p = 2 then 110 else if p = 3 then 109 else if p = 4 then 101 else if p = 5 then 111 else if p = 6 then 116 else if p = 7 then 99 else if p = 8 then 115 else if p = 9 then 119 else 100
theorem has_mem (op : Int) {p : Int} (hp : 0 ≤ p ∧ p ≤ 10) : hasP (pS op) (ltr p) = true ↔ p ∈ pL op := by
  by_cases hop : 2 ≤ op ∧ op ≤ 20
  · rcases op_cases hop with rfl | rfl | rfl | rfl | rfl | rfl | rfl | rfl | rfl | rfl | rfl | rfl | rfl | rfl | rfl | rfl | rfl | rfl | rfl <;>
    rcases p_cases hp with rfl | rfl | rfl | rfl | rfl | rfl | rfl | rfl | rfl | rfl | rfl <;> decide
  · rw [pL_none hop, pS_none hop]; simp [hasP]
theorem fold_eq {c : Cal} : ∀ (ps : List Int) (o : Cal), (∀ p ∈ ps, 0 ≤ p ∧ p ≤ 10) → ps.foldl (plnS c) o =
    ⟨o.op, if 0 ∈ ps then c.at_ else o.at_, if 1 ∈ ps then c.lab else o.lab, if 4 ∈ ps then c.ent else o.ent, if 5 ∈ ps then c.own else o.own, if 2 ∈ ps ∨ 10 ∈ ps then c.n else o.n, if 3 ∈ ps then c.m else o.m, if 6 ∈ ps then c.text else o.text, if 7 ∈ ps then c.cat else o.cat, if 8 ∈ ps then c.seg else o.seg, if 9 ∈ ps then c.write else o.write⟩
  | [], o, _ => by simp
  | p :: ps, o, h => by
    rw [List.foldl_cons, fold_eq ps _ (fun q hq => h q (by simp [hq]))]
    rcases p_cases (h p (by simp)) with rfl | rfl | rfl | rfl | rfl | rfl | rfl | rfl | rfl | rfl | rfl
    all_goals simp [plnS]
theorem plC_eq (c : Cal) : plC c = ⟨c.op, if 0 ∈ pL c.op then c.at_ else [], if 1 ∈ pL c.op then c.lab else [], if 4 ∈ pL c.op then c.ent else [], if 5 ∈ pL c.op then c.own else [], if 2 ∈ pL c.op ∨ 10 ∈ pL c.op then c.n else 0, if 3 ∈ pL c.op then c.m else 0, if 6 ∈ pL c.op then c.text else [], if 7 ∈ pL c.op then c.cat else [], if 8 ∈ pL c.op then c.seg else [], if 9 ∈ pL c.op then c.write else false⟩ := fold_eq _ _ (pL_rng _).2
theorem rig_ref (c : Cal) : rigCal c = refR c := by
  have m0 := has_mem c.op (p := 0) (by omega)
  have m1 := has_mem c.op (p := 1) (by omega)
  have m2 := has_mem c.op (p := 2) (by omega)
  have m3 := has_mem c.op (p := 3) (by omega)
  have m4 := has_mem c.op (p := 4) (by omega)
  have m5 := has_mem c.op (p := 5) (by omega)
  have m6 := has_mem c.op (p := 6) (by omega)
  have m7 := has_mem c.op (p := 7) (by omega)
  have m8 := has_mem c.op (p := 8) (by omega)
  have m9 := has_mem c.op (p := 9) (by omega)
  have m10 := has_mem c.op (p := 10) (by omega)
  simp only [ltr, Int.reduceEq, if_true, if_false, reduceIte] at m0 m1 m2 m3 m4 m5 m6 m7 m8 m9 m10
  have hrg := (pL_rng c.op).2
  have hpe := plC_eq c
  rw [Bool.eq_iff_iff, refR_iff]
  simp only [m0, m1, m2, m3, m4, m5, m6, m7, m8, m9, m10]
  generalize hps : pL c.op = ps at *
  clear m0 m1 m2 m3 m4 m5 m6 m7 m8 m9 m10
  constructor
  · intro h
    obtain ⟨ho, hpl, hg⟩ := rigCal_all h
    rw [hps] at hg
    rw [hpe] at hpl
    have g0 := fun z => hg 0 z
    have g1 := fun z => hg 1 z
    have g2 := fun z => hg 2 z
    have g3 := fun z => hg 3 z
    have g4 := fun z => hg 4 z
    have g5 := fun z => hg 5 z
    have g6 := fun z => hg 6 z
    have g7 := fun z => hg 7 z
    have g8 := fun z => hg 8 z
    have g10 := fun z => hg 10 z
    simp only [rgP, Int.reduceEq, if_true, if_false, reduceIte, okN_iff, decide_eq_true_eq, Bool.and_eq_true, ge_iff_le] at g0 g1 g2 g3 g4 g5 g6 g7 g8 g10
    have f0 := congrArg Cal.at_ hpl
    have f1 := congrArg Cal.lab hpl
    have f4 := congrArg Cal.ent hpl
    have f5 := congrArg Cal.own hpl
    have fn := congrArg Cal.n hpl
    have f3 := congrArg Cal.m hpl
    have f6 := congrArg Cal.text hpl
    have f7 := congrArg Cal.cat hpl
    have f8 := congrArg Cal.seg hpl
    have f9 := congrArg Cal.write hpl
    simp only at f0 f1 f4 f5 fn f3 f6 f7 f8 f9
    refine ⟨⟨ho, ?_, ?_, ?_, ?_, ?_, ?_, ?_, ?_⟩, ?_, ?_⟩
    · by_cases z : (0 : Int) ∈ ps
      · exact ⟨.inr z, g0 z⟩
      · rw [if_neg z] at f0; rw [← f0]; exact ⟨.inl rfl, rigP_nil⟩
    · by_cases z : (1 : Int) ∈ ps
      · exact ⟨.inr z, g1 z⟩
      · rw [if_neg z] at f1; rw [← f1]; exact ⟨.inl rfl, rigL_nil⟩
    · by_cases z : (4 : Int) ∈ ps
      · exact ⟨.inr z, g4 z⟩
      · rw [if_neg z] at f4; rw [← f4]; exact ⟨.inl rfl, rigL_nil⟩
    · by_cases z : (5 : Int) ∈ ps
      · exact ⟨.inr z, g5 z⟩
      · rw [if_neg z] at f5; rw [← f5]; exact ⟨.inl rfl, rigO_nil⟩
    · by_cases z : (8 : Int) ∈ ps
      · exact ⟨.inr z, g8 z⟩
      · rw [if_neg z] at f8; rw [← f8]; exact ⟨.inl rfl, rigP_nil⟩
    · by_cases z : (6 : Int) ∈ ps
      · exact ⟨.inr z, g6 z⟩
      · rw [if_neg z] at f6; rw [← f6]; exact ⟨.inl rfl, by simp⟩
    · by_cases z : (3 : Int) ∈ ps
      · exact ⟨.inr z, g3 z⟩
      · rw [if_neg z] at f3; rw [← f3]; exact ⟨.inl rfl, by omega, by omega⟩
    · have hn : c.n ≤ 1048576 ∧ -1048576 ≤ c.n := by
        by_cases z2 : (2 : Int) ∈ ps
        · have := g2 z2; omega
        by_cases z10 : (10 : Int) ∈ ps
        · have := g10 z10; omega
        · rw [if_neg (by simp [z2, z10])] at fn; omega
      refine ⟨?_, hn⟩
      by_cases z : (9 : Int) ∈ ps
      · exact .inr z
      · rw [if_neg z] at f9; exact .inl f9.symm
    · by_cases z : (7 : Int) ∈ ps
      · rw [if_pos z]; exact g7 z
      · rw [if_neg z] at f7 ⊢; exact f7.symm
    · by_cases z2 : (2 : Int) ∈ ps
      · rw [if_pos z2]; exact (g2 z2).1
      · rw [if_neg z2]
        by_cases z10 : (10 : Int) ∈ ps
        · exact .inr z10
        · rw [if_neg (by simp [z2, z10])] at fn; exact .inl fn.symm
  · rintro ⟨⟨ho, r⟩, hcat, hn⟩
    obtain ⟨r0, r1, r4, r5, r8, r6, r3, r9⟩ := r
    have fi : ∀ {α : Type} {P : Prop} [Decidable P] {x y : α}, (x = y ∨ P) → (if P then x else y) = x := fun h => by
      split
      · rfl
      · rename_i hp; rcases h with h | h
        · exact h.symm
        · exact absurd h hp
    have hpl : plC c = c := by
      rw [hpe]
      obtain ⟨a1, a2, a3, a4, a5, a6, a7, a8, a9, a10, a11⟩ := c
      simp only at r0 r1 r4 r5 r8 r6 r3 r9 hcat hn ⊢
      rw [fi r0.1, fi r1.1, fi r4.1, fi r5.1, fi r3.1, fi r6.1, fi r8.1, fi r9.1]
      congr 1
      · by_cases z2 : (2 : Int) ∈ ps
        · rw [if_pos (.inl z2)]
        · rw [if_neg z2] at hn
          rcases hn with hn | hn
          · split <;> simp [hn]
          · rw [if_pos (.inr hn)]
      · by_cases z : (7 : Int) ∈ ps
        · rw [if_pos z]
        · rw [if_neg z] at hcat ⊢; exact hcat.symm
    unfold rigCal
    rw [hps]
    simp only [Bool.and_eq_true, decide_eq_true_eq, List.all_eq_true]
    refine ⟨⟨⟨ho.1, ho.2⟩, hpl⟩, fun p hp => ?_⟩
    rcases p_cases (hrg p hp) with rfl | rfl | rfl | rfl | rfl | rfl | rfl | rfl | rfl | rfl | rfl
    all_goals simp only [rgP, Int.reduceEq, if_true, if_false, reduceIte, okN_iff, decide_eq_true_eq, Bool.and_eq_true, ge_iff_le]
    · exact r0.2
    · exact r1.2
    · rw [if_pos hp] at hn; exact ⟨hn, r9.2.1⟩
    · exact r3.2
    · exact r4.2
    · exact r5.2
    · exact r6.2
    · rw [if_pos hp] at hcat; exact hcat
    · exact r8.2
    · exact ⟨r9.2.2, r9.2.1⟩
end Go.Proofs.YtlcflpanellbfaaGreatDoor.L
/- The document's calls: the same, as bytes, plain (written by tools/mk120.py). -/
set_option linter.all false
set_option maxRecDepth 100000
set_option maxHeartbeats 32000000
namespace Go.Proofs.YtlcflpanellbfaaGreatDoor.L
open Go.Proofs.YtlcflpanellbfaaGreatDoor.M Go.Proofs.YtlcflpanellbfaaGreatDoor.F Go.Proofs
theorem rsame_run {a b : Cal} (ha : okC a) : run T 13 [.agg (encC a), .agg (encC b)] [] = some (.bool (decide (a = b)), []) := by
  have q1 := sm8_run (a := a.at_) (b := b.at_) (h := []) (by have := ha.at_; omega)
  have q2 := sm6_run (a := a.lab) (b := b.lab) (h := []) (by have := ha.lab; omega)
  have q3 := sm6_run (a := a.ent) (b := b.ent) (h := []) (by have := ha.ent; omega)
  have q4 := sm7_run (a := a.own) (b := b.own) (h := []) (by have := ha.own; omega)
  have q5 := sm8_run (a := a.seg) (b := b.seg) (h := []) (by have := ha.seg; omega)
  have q6 := lbU a.text b.text
  have q7 := lb_dec a.op b.op
  have q8 := lb_dec a.n b.n
  have q9 := lb_dec a.m b.m
  have q10 := lbU a.cat b.cat
  have q11 := lb_dec a.write b.write
  have he : decide (a = b) = (decide (a.op = b.op) && (decide (a.at_ = b.at_) && (decide (a.lab = b.lab) && (decide (a.ent = b.ent) && (decide (a.own = b.own) && (decide (a.n = b.n) && (decide (a.m = b.m) && (decide (a.text = b.text) && (decide (a.cat = b.cat) && (decide (a.seg = b.seg) && decide (a.write = b.write))))))))))) := by
    rw [← Bool.decide_and, ← Bool.decide_and, ← Bool.decide_and, ← Bool.decide_and, ← Bool.decide_and, ← Bool.decide_and, ← Bool.decide_and, ← Bool.decide_and, ← Bool.decide_and, ← Bool.decide_and]
    refine decide_eq_decide.2 ?_
    obtain ⟨a1, a2, a3, a4, a5, a6, a7, a8, a9, a10, a11⟩ := a
    obtain ⟨b1, b2, b3, b4, b5, b6, b7, b8, b9, b10, b11⟩ := b
    simp only [Cal.mk.injEq]
  rw [he, run_code T_13]
  clear he ha
  obtain ⟨a1, a2, a3, a4, a5, a6, a7, a8, a9, a10, a11⟩ := a
  obtain ⟨b1, b2, b3, b4, b5, b6, b7, b8, b9, b10, b11⟩ := b
  simp only [encC] at q1 q2 q3 q4 q5 q6 q7 q8 q9 q10 q11 ⊢
  generalize decide (a1 = b1) = d1 at *
  generalize decide (a2 = b2) = d2 at *
  generalize decide (a3 = b3) = d3 at *
  generalize decide (a4 = b4) = d4 at *
  generalize decide (a5 = b5) = d5 at *
  generalize decide (a6 = b6) = d6 at *
  generalize decide (a7 = b7) = d7 at *
  generalize decide (a8 = b8) = d8 at *
  generalize decide (a9 = b9) = d9 at *
  generalize decide (a10 = b10) = d10 at *
  generalize decide (a11 = b11) = d11 at *
  cases d1
  · simp (maxSteps := 4000000) -implicitDefEqProofs (disch := (refine id_ok ?_; first | assumption | omega | (simp [go_sem] <;> omega) | with_unfolding_all rfl | decide)) only [go_sem, Nat.reduceAdd, Nat.reduceSub, Nat.reduceMul, Nat.reduceLeDiff, Nat.reduceEqDiff, Nat.reduceBEq, reduceIte, reduceCtorEq, c_regencyref11_Same, q1, q2, q3, q4, q5, q6, q7, q8, q9, q10, q11, Bool.false_and, Bool.true_and]
  cases d2
  · simp (maxSteps := 4000000) -implicitDefEqProofs (disch := (refine id_ok ?_; first | assumption | omega | (simp [go_sem] <;> omega) | with_unfolding_all rfl | decide)) only [go_sem, Nat.reduceAdd, Nat.reduceSub, Nat.reduceMul, Nat.reduceLeDiff, Nat.reduceEqDiff, Nat.reduceBEq, reduceIte, reduceCtorEq, c_regencyref11_Same, q1, q2, q3, q4, q5, q6, q7, q8, q9, q10, q11, Bool.false_and, Bool.true_and]
  cases d3
  · simp (maxSteps := 4000000) -implicitDefEqProofs (disch := (refine id_ok ?_; first | assumption | omega | (simp [go_sem] <;> omega) | with_unfolding_all rfl | decide)) only [go_sem, Nat.reduceAdd, Nat.reduceSub, Nat.reduceMul, Nat.reduceLeDiff, Nat.reduceEqDiff, Nat.reduceBEq, reduceIte, reduceCtorEq, c_regencyref11_Same, q1, q2, q3, q4, q5, q6, q7, q8, q9, q10, q11, Bool.false_and, Bool.true_and]
  cases d4
  · simp (maxSteps := 4000000) -implicitDefEqProofs (disch := (refine id_ok ?_; first | assumption | omega | (simp [go_sem] <;> omega) | with_unfolding_all rfl | decide)) only [go_sem, Nat.reduceAdd, Nat.reduceSub, Nat.reduceMul, Nat.reduceLeDiff, Nat.reduceEqDiff, Nat.reduceBEq, reduceIte, reduceCtorEq, c_regencyref11_Same, q1, q2, q3, q4, q5, q6, q7, q8, q9, q10, q11, Bool.false_and, Bool.true_and]
  cases d5
  · simp (maxSteps := 4000000) -implicitDefEqProofs (disch := (refine id_ok ?_; first | assumption | omega | (simp [go_sem] <;> omega) | with_unfolding_all rfl | decide)) only [go_sem, Nat.reduceAdd, Nat.reduceSub, Nat.reduceMul, Nat.reduceLeDiff, Nat.reduceEqDiff, Nat.reduceBEq, reduceIte, reduceCtorEq, c_regencyref11_Same, q1, q2, q3, q4, q5, q6, q7, q8, q9, q10, q11, Bool.false_and, Bool.true_and]
  cases d6
  · simp (maxSteps := 4000000) -implicitDefEqProofs (disch := (refine id_ok ?_; first | assumption | omega | (simp [go_sem] <;> omega) | with_unfolding_all rfl | decide)) only [go_sem, Nat.reduceAdd, Nat.reduceSub, Nat.reduceMul, Nat.reduceLeDiff, Nat.reduceEqDiff, Nat.reduceBEq, reduceIte, reduceCtorEq, c_regencyref11_Same, q1, q2, q3, q4, q5, q6, q7, q8, q9, q10, q11, Bool.false_and, Bool.true_and]
  cases d7
  · simp (maxSteps := 4000000) -implicitDefEqProofs (disch := (refine id_ok ?_; first | assumption | omega | (simp [go_sem] <;> omega) | with_unfolding_all rfl | decide)) only [go_sem, Nat.reduceAdd, Nat.reduceSub, Nat.reduceMul, Nat.reduceLeDiff, Nat.reduceEqDiff, Nat.reduceBEq, reduceIte, reduceCtorEq, c_regencyref11_Same, q1, q2, q3, q4, q5, q6, q7, q8, q9, q10, q11, Bool.false_and, Bool.true_and]
  cases d8
  · simp (maxSteps := 4000000) -implicitDefEqProofs (disch := (refine id_ok ?_; first | assumption | omega | (simp [go_sem] <;> omega) | with_unfolding_all rfl | decide)) only [go_sem, Nat.reduceAdd, Nat.reduceSub, Nat.reduceMul, Nat.reduceLeDiff, Nat.reduceEqDiff, Nat.reduceBEq, reduceIte, reduceCtorEq, c_regencyref11_Same, q1, q2, q3, q4, q5, q6, q7, q8, q9, q10, q11, Bool.false_and, Bool.true_and]
  cases d9
  · simp (maxSteps := 4000000) -implicitDefEqProofs (disch := (refine id_ok ?_; first | assumption | omega | (simp [go_sem] <;> omega) | with_unfolding_all rfl | decide)) only [go_sem, Nat.reduceAdd, Nat.reduceSub, Nat.reduceMul, Nat.reduceLeDiff, Nat.reduceEqDiff, Nat.reduceBEq, reduceIte, reduceCtorEq, c_regencyref11_Same, q1, q2, q3, q4, q5, q6, q7, q8, q9, q10, q11, Bool.false_and, Bool.true_and]
  cases d10
  · simp (maxSteps := 4000000) -implicitDefEqProofs (disch := (refine id_ok ?_; first | assumption | omega | (simp [go_sem] <;> omega) | with_unfolding_all rfl | decide)) only [go_sem, Nat.reduceAdd, Nat.reduceSub, Nat.reduceMul, Nat.reduceLeDiff, Nat.reduceEqDiff, Nat.reduceBEq, reduceIte, reduceCtorEq, c_regencyref11_Same, q1, q2, q3, q4, q5, q6, q7, q8, q9, q10, q11, Bool.false_and, Bool.true_and]
  · simp (maxSteps := 4000000) -implicitDefEqProofs (disch := (refine id_ok ?_; first | assumption | omega | (simp [go_sem] <;> omega) | with_unfolding_all rfl | decide)) only [go_sem, Nat.reduceAdd, Nat.reduceSub, Nat.reduceMul, Nat.reduceLeDiff, Nat.reduceEqDiff, Nat.reduceBEq, reduceIte, reduceCtorEq, c_regencyref11_Same, q1, q2, q3, q4, q5, q6, q7, q8, q9, q10, q11, Bool.false_and, Bool.true_and]
def lt8 (p : Int) : UInt8 := if p = 0 then 97 else if p = 1 then 108 else if p = 2 then 110 else if p = 3 then 109 else if p = 4 then 101 else if p = 5 then 111 else if p = 6 then 116 else if p = 7 then 99 else if p = 8 then 115 else if p = 9 then 119 else 100
theorem pS_map (op : Int) : pS op = (pL op).map lt8 := by
  by_cases hop : 2 ≤ op ∧ op ≤ 20
  · rcases op_cases hop with rfl | rfl | rfl | rfl | rfl | rfl | rfl | rfl | rfl | rfl | rfl | rfl | rfl | rfl | rfl | rfl | rfl | rfl | rfl <;> decide
  · rw [pL_none hop, pS_none hop]; rfl
theorem rb11_loop {c : Cal} {ps : List Int} (hr : ∀ p ∈ ps, 0 ≤ p ∧ p ≤ 10) (hg : ∀ p ∈ ps, rgP c p = true) (hn : ps.length ≤ 6) : ∀ (d i : Nat) (b : List UInt8), d + i = ps.length → b.length ≤ 9 + 1000 * i →
    den T (.loop l_regencyref11_Bytes_0) (s_regencyref11_Bytes_0 (.box 0 0) (.str ⟨b.toArray⟩) (.str ⟨(ps.map lt8).toArray⟩) (.int .i64 i)) [.cells (encC c)] = some (.exit 0, x_regencyref11_Bytes_0 (.str ⟨(b ++ (ps.drop i).flatMap (byP c)).toArray⟩), [.cells (encC c)]) := by
  have hz : (⟨(ps.map lt8).toArray⟩ : ByteArray).size = ps.length := by simp [ByteArray.size]
  intro d
  induction d with
  | zero =>
    intro i b hd hb
    have hd' : decide ((i : Int) < ps.length) = false := decide_eq_false (by omega)
    rw [List.drop_eq_nil_of_le (by omega), List.flatMap_nil, List.append_nil]
    rw [lp_round]
    simp -implicitDefEqProofs (disch := (refine id_ok ?_; first | assumption | omega | (simp [go_sem] <;> omega) | with_unfolding_all rfl | decide)) only [go_sem, Nat.reduceAdd, Nat.reduceSub, Nat.reduceMul, Nat.reduceLeDiff, Nat.reduceEqDiff, Nat.reduceBEq, reduceIte, reduceCtorEq, hz, hd']
  | succ d ih =>
    intro i b hd hb
    have hib : i < ps.length := by omega
    have hd' : decide ((i : Int) < ps.length) = true := decide_eq_true (by omega)
    have hgx : (⟨(ps.map lt8).toArray⟩ : ByteArray)[(i : Int).toNat]? = some (lt8 ps[i]) := by
      have := str_get (a := ps.map lt8) (i := i)
      rw [Int.toNat_natCast, this]; simp [hib]
    have hdr : ps.drop i = ps[i] :: ps.drop (i + 1) := List.drop_eq_getElem_cons hib
    have e7 := incP (n := i) (by omega)
    have hp := hr ps[i] (by simp)
    have hgp := hg ps[i] (by simp)
    rw [hdr, List.flatMap_cons]
    generalize ps[i] = p at *
    have hl := byP_len hp hgp
    have ih' := ih (i + 1) (b ++ byP c p) (by omega) (by rw [List.length_append]; omega)
    have h2 := str_app (a := b) (b := byP c p)
    rw [List.append_assoc] at ih'
    clear ih hg hr
    generalize (ps.drop (i + 1)).flatMap (byP c) = rest at *
    have key : ∀ (q : List UInt8), byP c p = q → (⟨b.toArray⟩ : ByteArray) ++ ⟨q.toArray⟩ = ⟨(b ++ byP c p).toArray⟩ := fun q hq => by rw [← hq]; exact h2
    rcases p_cases hp with rfl | rfl | rfl | rfl | rfl | rfl | rfl | rfl | rfl | rfl | rfl
    all_goals simp only [rgP, byP, Int.reduceEq, if_true, if_false, reduceIte] at hgp hl h2 ih' ⊢
    · have hx : ((lt8 0).toNat : Int) = 97 := rfl
      have q := rp8_run (l := c.at_) (h := []) (by have := (rigP_all hgp).1; omega)
      clear key hgp
      obtain ⟨a1, a2, a3, a4, a5, a6, a7, a8, a9, a10, a11⟩ := c
      simp only [encC] at q h2 hl ih' ⊢
      generalize bytA a2 = W at *
      rw [lp_round]
      simp (maxSteps := 4000000) -implicitDefEqProofs (disch := (refine id_ok ?_; first | assumption | omega | (simp [go_sem] <;> omega) | with_unfolding_all rfl | decide)) only [go_sem, Nat.reduceAdd, Nat.reduceSub, Nat.reduceMul, Nat.reduceLeDiff, Nat.reduceEqDiff, Nat.reduceBEq, reduceIte, reduceCtorEq, hz, hd', hgx, hx, q, h2, e7, Int.reduceBEq]
      exact ih'
    · have hx : ((lt8 1).toNat : Int) = 108 := rfl
      have q := rput_run (l := c.lab) (h := []) hgp
      rw [show num c.lab.length ++ c.lab.flatMap enE1 = bytLb c.lab from rfl] at q
      clear key hgp
      obtain ⟨a1, a2, a3, a4, a5, a6, a7, a8, a9, a10, a11⟩ := c
      simp only [encC] at q h2 hl ih' ⊢
      generalize bytLb a3 = W at *
      rw [lp_round]
      simp (maxSteps := 4000000) -implicitDefEqProofs (disch := (refine id_ok ?_; first | assumption | omega | (simp [go_sem] <;> omega) | with_unfolding_all rfl | decide)) only [go_sem, Nat.reduceAdd, Nat.reduceSub, Nat.reduceMul, Nat.reduceLeDiff, Nat.reduceEqDiff, Nat.reduceBEq, reduceIte, reduceCtorEq, hz, hd', hgx, hx, q, h2, e7, Int.reduceBEq]
      exact ih'
    · have hx : ((lt8 2).toNat : Int) = 110 := rfl
      have hk := okN_iff.1 hgp
      obtain ⟨k, hkk⟩ : ∃ k : Nat, c.n = k := ⟨c.n.toNat, by omega⟩
      have q := rn_run k (h := []) (by omega)
      rw [hkk, Int.toNat_natCast] at h2 hl ih' ⊢
      rw [← hkk] at q
      clear key hgp
      obtain ⟨a1, a2, a3, a4, a5, a6, a7, a8, a9, a10, a11⟩ := c
      simp only [encC] at q h2 hl ih' hkk ⊢
      generalize num k = W at *
      rw [lp_round]
      simp (maxSteps := 4000000) -implicitDefEqProofs (disch := (refine id_ok ?_; first | assumption | omega | (simp [go_sem] <;> omega) | with_unfolding_all rfl | decide)) only [go_sem, Nat.reduceAdd, Nat.reduceSub, Nat.reduceMul, Nat.reduceLeDiff, Nat.reduceEqDiff, Nat.reduceBEq, reduceIte, reduceCtorEq, hz, hd', hgx, hx, q, h2, e7, Int.reduceBEq]
      exact ih'
    · have hx : ((lt8 3).toNat : Int) = 109 := rfl
      have hk := okN_iff.1 hgp
      obtain ⟨k, hkk⟩ : ∃ k : Nat, c.m = k := ⟨c.m.toNat, by omega⟩
      have q := rn_run k (h := []) (by omega)
      rw [hkk, Int.toNat_natCast] at h2 hl ih' ⊢
      rw [← hkk] at q
      clear key hgp
      obtain ⟨a1, a2, a3, a4, a5, a6, a7, a8, a9, a10, a11⟩ := c
      simp only [encC] at q h2 hl ih' hkk ⊢
      generalize num k = W at *
      rw [lp_round]
      simp (maxSteps := 4000000) -implicitDefEqProofs (disch := (refine id_ok ?_; first | assumption | omega | (simp [go_sem] <;> omega) | with_unfolding_all rfl | decide)) only [go_sem, Nat.reduceAdd, Nat.reduceSub, Nat.reduceMul, Nat.reduceLeDiff, Nat.reduceEqDiff, Nat.reduceBEq, reduceIte, reduceCtorEq, hz, hd', hgx, hx, q, h2, e7, Int.reduceBEq]
      exact ih'
    · have hx : ((lt8 4).toNat : Int) = 101 := rfl
      have q := rput_run (l := c.ent) (h := []) hgp
      rw [show num c.ent.length ++ c.ent.flatMap enE1 = bytLb c.ent from rfl] at q
      clear key hgp
      obtain ⟨a1, a2, a3, a4, a5, a6, a7, a8, a9, a10, a11⟩ := c
      simp only [encC] at q h2 hl ih' ⊢
      generalize bytLb a4 = W at *
      rw [lp_round]
      simp (maxSteps := 4000000) -implicitDefEqProofs (disch := (refine id_ok ?_; first | assumption | omega | (simp [go_sem] <;> omega) | with_unfolding_all rfl | decide)) only [go_sem, Nat.reduceAdd, Nat.reduceSub, Nat.reduceMul, Nat.reduceLeDiff, Nat.reduceEqDiff, Nat.reduceBEq, reduceIte, reduceCtorEq, hz, hd', hgx, hx, q, h2, e7, Int.reduceBEq]
      exact ih'
    · have hx : ((lt8 5).toNat : Int) = 111 := rfl
      have q := rput7_run (l := c.own) (rigO_all hgp).1 (fun s hs => ((rigO_all hgp).2 s hs).2) (h := [])
      clear key hgp
      obtain ⟨a1, a2, a3, a4, a5, a6, a7, a8, a9, a10, a11⟩ := c
      simp only [encC] at q h2 hl ih' ⊢
      generalize bytO a5 = W at *
      rw [lp_round]
      simp (maxSteps := 4000000) -implicitDefEqProofs (disch := (refine id_ok ?_; first | assumption | omega | (simp [go_sem] <;> omega) | with_unfolding_all rfl | decide)) only [go_sem, Nat.reduceAdd, Nat.reduceSub, Nat.reduceMul, Nat.reduceLeDiff, Nat.reduceEqDiff, Nat.reduceBEq, reduceIte, reduceCtorEq, hz, hd', hgx, hx, q, h2, e7, Int.reduceBEq]
      exact ih'
    · have hx : ((lt8 6).toNat : Int) = 116 := rfl
      have q := rt_run (s := c.text) (h := []) (by have := of_decide_eq_true hgp; omega)
      clear key hgp
      obtain ⟨a1, a2, a3, a4, a5, a6, a7, a8, a9, a10, a11⟩ := c
      simp only [encC] at q h2 hl ih' ⊢
      generalize num a8.length ++ a8 = W at *
      rw [lp_round]
      simp (maxSteps := 4000000) -implicitDefEqProofs (disch := (refine id_ok ?_; first | assumption | omega | (simp [go_sem] <;> omega) | with_unfolding_all rfl | decide)) only [go_sem, Nat.reduceAdd, Nat.reduceSub, Nat.reduceMul, Nat.reduceLeDiff, Nat.reduceEqDiff, Nat.reduceBEq, reduceIte, reduceCtorEq, hz, hd', hgx, hx, q, h2, e7, Int.reduceBEq]
      exact ih'
    · have hx : ((lt8 7).toNat : Int) = 99 := rfl
      have q := rt_run (s := c.cat) (h := []) (by have := rigC_len hgp; omega)
      clear key hgp
      obtain ⟨a1, a2, a3, a4, a5, a6, a7, a8, a9, a10, a11⟩ := c
      simp only [encC] at q h2 hl ih' ⊢
      generalize num a9.length ++ a9 = W at *
      rw [lp_round]
      simp (maxSteps := 4000000) -implicitDefEqProofs (disch := (refine id_ok ?_; first | assumption | omega | (simp [go_sem] <;> omega) | with_unfolding_all rfl | decide)) only [go_sem, Nat.reduceAdd, Nat.reduceSub, Nat.reduceMul, Nat.reduceLeDiff, Nat.reduceEqDiff, Nat.reduceBEq, reduceIte, reduceCtorEq, hz, hd', hgx, hx, q, h2, e7, Int.reduceBEq]
      exact ih'
    · have hx : ((lt8 8).toNat : Int) = 115 := rfl
      have q := rp8_run (l := c.seg) (h := []) (by have := (rigP_all hgp).1; omega)
      clear key hgp
      obtain ⟨a1, a2, a3, a4, a5, a6, a7, a8, a9, a10, a11⟩ := c
      simp only [encC] at q h2 hl ih' ⊢
      generalize bytA a10 = W at *
      rw [lp_round]
      simp (maxSteps := 4000000) -implicitDefEqProofs (disch := (refine id_ok ?_; first | assumption | omega | (simp [go_sem] <;> omega) | with_unfolding_all rfl | decide)) only [go_sem, Nat.reduceAdd, Nat.reduceSub, Nat.reduceMul, Nat.reduceLeDiff, Nat.reduceEqDiff, Nat.reduceBEq, reduceIte, reduceCtorEq, hz, hd', hgx, hx, q, h2, e7, Int.reduceBEq]
      exact ih'
    · have hx : ((lt8 9).toNat : Int) = 119 := rfl
      have q := rflag_run (v := c.write) (h := [])
      clear key hgp
      obtain ⟨a1, a2, a3, a4, a5, a6, a7, a8, a9, a10, a11⟩ := c
      simp only [encC] at q h2 hl ih' ⊢
      generalize numF a11 = W at *
      rw [lp_round]
      simp (maxSteps := 4000000) -implicitDefEqProofs (disch := (refine id_ok ?_; first | assumption | omega | (simp [go_sem] <;> omega) | with_unfolding_all rfl | decide)) only [go_sem, Nat.reduceAdd, Nat.reduceSub, Nat.reduceMul, Nat.reduceLeDiff, Nat.reduceEqDiff, Nat.reduceBEq, reduceIte, reduceCtorEq, hz, hd', hgx, hx, q, h2, e7, Int.reduceBEq]
      exact ih'
    · have hx : ((lt8 10).toNat : Int) = 100 := rfl
      simp only [Bool.and_eq_true, decide_eq_true_eq] at hgp
      obtain ⟨k, hkk⟩ : ∃ k : Nat, c.n + 1048576 = k := ⟨(c.n + 1048576).toNat, by omega⟩
      have q := rn_run k (h := []) (by omega)
      have e1 : IntKind.i64.wrap (c.n + 1048576) = (k : Int) := by rw [hkk, w64 (by omega) (by omega)]
      rw [hkk, Int.toNat_natCast] at h2 hl ih' ⊢
      clear key hgp
      obtain ⟨a1, a2, a3, a4, a5, a6, a7, a8, a9, a10, a11⟩ := c
      simp only [encC] at q h2 hl ih' e1 hkk ⊢
      generalize num k = W at *
      rw [lp_round]
      simp (maxSteps := 4000000) -implicitDefEqProofs (disch := (refine id_ok ?_; first | assumption | omega | (simp [go_sem] <;> omega) | with_unfolding_all rfl | decide)) only [go_sem, Nat.reduceAdd, Nat.reduceSub, Nat.reduceMul, Nat.reduceLeDiff, Nat.reduceEqDiff, Nat.reduceBEq, reduceIte, reduceCtorEq, hz, hd', hgx, hx, q, h2, e1, e7, Int.reduceBEq]
      exact ih'
theorem rbytes11_run {c : Cal} (hr : rigCal c = true) : run T 8 [.agg (encC c)] [] = some (.str ⟨(bytCal c).toArray⟩, []) := by
  obtain ⟨ho, _, hg⟩ := rigCal_all hr
  have hby : bytCal c = num c.op.toNat ++ (pL c.op).flatMap (byP c) := by unfold bytCal; rw [if_pos hr]
  obtain ⟨k, hk⟩ : ∃ k : Nat, c.op = k := ⟨c.op.toNat, by omega⟩
  have q1 := rn_run k (h := []) (by omega)
  have q2 := rparts_run (op := c.op)
  rw [pS_map] at q2
  have h9 := num_len (n := k) (by omega)
  have q3 := rb11_loop (pL_rng c.op).2 hg (pL_rng c.op).1 (pL c.op).length 0 (num k) (by omega) (by omega)
  simp only [show ((0 : Nat) : Int) = 0 from rfl, List.drop_zero] at q3
  rw [hby, run_code T_8]
  have hkn : c.op.toNat = k := by rw [hk]; simp
  rw [hkn]
  rw [← hk] at q1
  generalize (pL c.op).flatMap (byP c) = Fm at *
  generalize (pL c.op).map lt8 = ps at *
  clear hr hg hby
  obtain ⟨a1, a2, a3, a4, a5, a6, a7, a8, a9, a10, a11⟩ := c
  simp only [encC] at q1 q2 q3 ⊢
  simp (maxSteps := 4000000) -implicitDefEqProofs (disch := (refine id_ok ?_; first | assumption | omega | (simp [go_sem] <;> omega) | with_unfolding_all rfl | decide)) only [go_sem, Nat.reduceAdd, Nat.reduceSub, Nat.reduceMul, Nat.reduceLeDiff, Nat.reduceEqDiff, Nat.reduceBEq, reduceIte, reduceCtorEq, c_regencyref11_Bytes, q1, q2, q3]
theorem has_at {op : Int} {P : List UInt8} (hP : P = pS op) (n : Int) : run T 24 [.str ⟨P.toArray⟩, .int .u8 n] [] = some (.bool (hasP (pS op) n), []) := by
  subst hP
  exact has_run (by have := pS_len op; omega)
theorem rplain_run {c : Cal} : run T 15 [.agg (encC c)] [] = some (.agg (encC (plC c)), []) := by
  obtain ⟨P, hP⟩ : ∃ P, P = pS c.op := ⟨_, rfl⟩
  have q0 := rparts_run (op := c.op)
  rw [← hP] at q0
  have q1 := has_at hP 97
  have q2 := has_at hP 108
  have q3 := has_at hP 110
  have q4 := has_at hP 109
  have q5 := has_at hP 101
  have q6 := has_at hP 111
  have q7 := has_at hP 116
  have q8 := has_at hP 99
  have q9 := has_at hP 115
  have q10 := has_at hP 119
  have q11 := has_at hP 100
  rw [plC_eq, run_code T_15]
  clear hP
  obtain ⟨a1, a2, a3, a4, a5, a6, a7, a8, a9, a10, a11⟩ := c
  simp only at q0 q1 q2 q3 q4 q5 q6 q7 q8 q9 q10 q11 ⊢
  have key : ∀ (Ps : List UInt8) (ps : List Int), pS a1 = Ps → pL a1 = ps → (hasP Ps 97 = decide ((0 : Int) ∈ ps) ∧ hasP Ps 108 = decide ((1 : Int) ∈ ps) ∧ hasP Ps 110 = decide ((2 : Int) ∈ ps) ∧ hasP Ps 109 = decide ((3 : Int) ∈ ps) ∧ hasP Ps 101 = decide ((4 : Int) ∈ ps) ∧ hasP Ps 111 = decide ((5 : Int) ∈ ps) ∧ hasP Ps 116 = decide ((6 : Int) ∈ ps) ∧ hasP Ps 99 = decide ((7 : Int) ∈ ps) ∧ hasP Ps 115 = decide ((8 : Int) ∈ ps) ∧ hasP Ps 119 = decide ((9 : Int) ∈ ps) ∧ hasP Ps 100 = decide ((10 : Int) ∈ ps)) := by
    rintro _ _ rfl rfl
    have h := fun p hp => has_mem a1 (p := p) hp
    refine ⟨?_, ?_, ?_, ?_, ?_, ?_, ?_, ?_, ?_, ?_, ?_⟩
    · have := h 0 (by omega); simp only [ltr, Int.reduceEq, if_true, if_false, reduceIte] at this; rw [Bool.eq_iff_iff, this, decide_eq_true_eq]
    · have := h 1 (by omega); simp only [ltr, Int.reduceEq, if_true, if_false, reduceIte] at this; rw [Bool.eq_iff_iff, this, decide_eq_true_eq]
    · have := h 2 (by omega); simp only [ltr, Int.reduceEq, if_true, if_false, reduceIte] at this; rw [Bool.eq_iff_iff, this, decide_eq_true_eq]
    · have := h 3 (by omega); simp only [ltr, Int.reduceEq, if_true, if_false, reduceIte] at this; rw [Bool.eq_iff_iff, this, decide_eq_true_eq]
    · have := h 4 (by omega); simp only [ltr, Int.reduceEq, if_true, if_false, reduceIte] at this; rw [Bool.eq_iff_iff, this, decide_eq_true_eq]
    · have := h 5 (by omega); simp only [ltr, Int.reduceEq, if_true, if_false, reduceIte] at this; rw [Bool.eq_iff_iff, this, decide_eq_true_eq]
    · have := h 6 (by omega); simp only [ltr, Int.reduceEq, if_true, if_false, reduceIte] at this; rw [Bool.eq_iff_iff, this, decide_eq_true_eq]
    · have := h 7 (by omega); simp only [ltr, Int.reduceEq, if_true, if_false, reduceIte] at this; rw [Bool.eq_iff_iff, this, decide_eq_true_eq]
    · have := h 8 (by omega); simp only [ltr, Int.reduceEq, if_true, if_false, reduceIte] at this; rw [Bool.eq_iff_iff, this, decide_eq_true_eq]
    · have := h 9 (by omega); simp only [ltr, Int.reduceEq, if_true, if_false, reduceIte] at this; rw [Bool.eq_iff_iff, this, decide_eq_true_eq]
    · have := h 10 (by omega); simp only [ltr, Int.reduceEq, if_true, if_false, reduceIte] at this; rw [Bool.eq_iff_iff, this, decide_eq_true_eq]
  obtain ⟨k0, k1, k2, k3, k4, k5, k6, k7, k8, k9, k10⟩ := key _ _ rfl rfl
  rw [k0] at q1
  rw [k1] at q2
  rw [k2] at q3
  rw [k3] at q4
  rw [k4] at q5
  rw [k5] at q6
  rw [k6] at q7
  rw [k7] at q8
  rw [k8] at q9
  rw [k9] at q10
  rw [k10] at q11
  clear key k0 k1 k2 k3 k4 k5 k6 k7 k8 k9 k10
  by_cases hop : 2 ≤ a1 ∧ a1 ≤ 20
  · rcases op_cases hop with rfl | rfl | rfl | rfl | rfl | rfl | rfl | rfl | rfl | rfl | rfl | rfl | rfl | rfl | rfl | rfl | rfl | rfl | rfl
    all_goals
      simp [pL] at q1 q2 q3 q4 q5 q6 q7 q8 q9 q10 q11
      simp only [encC, pL, Int.reduceEq, if_true, if_false, reduceIte, List.mem_cons, List.not_mem_nil, or_false, or_true, false_or, true_or, List.map_nil]
      cases a11 <;> simp (maxSteps := 4000000) -implicitDefEqProofs (disch := (refine id_ok ?_; first | assumption | omega | (simp [go_sem] <;> omega) | with_unfolding_all rfl | decide)) only [go_sem, Nat.reduceAdd, Nat.reduceSub, Nat.reduceMul, Nat.reduceLeDiff, Nat.reduceEqDiff, Nat.reduceBEq, reduceIte, reduceCtorEq, c_regencyref11_Plain, q0, q1, q2, q3, q4, q5, q6, q7, q8, q9, q10, q11]
  · rw [pL_none hop] at q1 q2 q3 q4 q5 q6 q7 q8 q9 q10 q11
    simp at q1 q2 q3 q4 q5 q6 q7 q8 q9 q10 q11
    simp only [pL_none hop, encC, List.not_mem_nil, or_false, if_false, List.map_nil]
    cases a11 <;> simp (maxSteps := 4000000) -implicitDefEqProofs (disch := (refine id_ok ?_; first | assumption | omega | (simp [go_sem] <;> omega) | with_unfolding_all rfl | decide)) only [go_sem, Nat.reduceAdd, Nat.reduceSub, Nat.reduceMul, Nat.reduceLeDiff, Nat.reduceEqDiff, Nat.reduceBEq, reduceIte, reduceCtorEq, c_regencyref11_Plain, q0, q1, q2, q3, q4, q5, q6, q7, q8, q9, q10, q11]
end Go.Proofs.YtlcflpanellbfaaGreatDoor.L
/- CallTells: what its function comes to. -/
set_option linter.all false
set_option maxRecDepth 100000
set_option maxHeartbeats 32000000
namespace Go.Proofs.YtlcflpanellbfaaGreatDoor.L
open Go.Proofs.YtlcflpanellbfaaGreatDoor.M Go.Proofs.YtlcflpanellbfaaGreatDoor.F Go.Proofs
def smC (c : Cal) : Prop := (∀ e ∈ c.lab, e.1.length ≤ 1000000000) ∧ (∀ e ∈ c.ent, e.1.length ≤ 1000000000) ∧ (∀ s ∈ c.own, s.length ≤ 1000000000) ∧ c.lab.length ≤ 1000000000 ∧ c.ent.length ≤ 1000000000
theorem smC_sh {c : Cal} (h : smC c) : shC c :=
  ⟨fun e he => by have := h.1 e he; omega, fun e he => by have := h.2.1 e he; omega, fun e he => by have := h.2.2.1 e he; omega, by have := h.2.2.2.1; omega, by have := h.2.2.2.2; omega⟩
theorem bytesV0 : bytesV (ow []) = some (.str ⟨#[]⟩) := rfl
theorem eql0 : binV .eql (.str ⟨#[]⟩) (.str ⟨#[]⟩) = some (.bool true) := by
  rw [show binV .eql (.str ⟨#[]⟩) (.str ⟨#[]⟩) = some (.bool ((⟨#[]⟩ : ByteArray).toList == (⟨#[]⟩ : ByteArray).toList)) from rfl]
  simp
theorem ctells_run {c d : Cal} (hc : smC c) (hd : smC d) : run U 3 [.agg (encC c), .agg (encC d)] [] = some (.bool true, []) := by
  have g1 := upU (great_run (smC_sh hc).2.2.2.1 (smC_sh hc).2.2.2.2)
  have g2 := upU (great_run (smC_sh hd).2.2.2.1 (smC_sh hd).2.2.2.2)
  rw [run_code (show U 3 = some (.code c_regencylaw11_CallTells) from rfl)]
  cases hg : grC c with
  | true =>
    rw [hg] at g1
    obtain ⟨a1, a2, a3, a4, a5, a6, a7, a8, a9, a10, a11⟩ := c
    obtain ⟨b1, b2, b3, b4, b5, b6, b7, b8, b9, b10, b11⟩ := d
    simp only [encC] at g1 g2 ⊢
    simp (maxSteps := 4000000) -implicitDefEqProofs (disch := (refine id_ok ?_; first | assumption | omega | (simp [go_sem] <;> omega) | with_unfolding_all rfl | decide)) only [go_sem, Nat.reduceAdd, Nat.reduceSub, Nat.reduceMul, Nat.reduceLeDiff, Nat.reduceEqDiff, Nat.reduceBEq, reduceIte, reduceCtorEq, c_regencylaw11_CallTells, first11, g1, Bool.not_true]
  | false =>
    rw [hg] at g1
    cases hgd : grC d with
    | true =>
      rw [hgd] at g2
      obtain ⟨a1, a2, a3, a4, a5, a6, a7, a8, a9, a10, a11⟩ := c
      obtain ⟨b1, b2, b3, b4, b5, b6, b7, b8, b9, b10, b11⟩ := d
      simp only [encC] at g1 g2 ⊢
      simp (maxSteps := 4000000) -implicitDefEqProofs (disch := (refine id_ok ?_; first | assumption | omega | (simp [go_sem] <;> omega) | with_unfolding_all rfl | decide)) only [go_sem, Nat.reduceAdd, Nat.reduceSub, Nat.reduceMul, Nat.reduceLeDiff, Nat.reduceEqDiff, Nat.reduceBEq, reduceIte, reduceCtorEq, c_regencylaw11_CallTells, first11, g1, g2, Bool.not_true]
    | false =>
      rw [hgd] at g2
      have okc := okC_of hg (smC_sh hc)
      have okd := okC_of hgd (smC_sh hd)
      have hcat := (grC_false hg).2.2.2.2.2
      have q1 := upU (rright_run okc (by omega) hc.2.2.1 hc.2.1 hc.1)
      rw [← rig_ref] at q1
      have q2 := right_run okc
      have q3 := cput_run (c := c) (w := 2) (b := []) (H := [.cells (encC c), .cells (encC d), Pn []]) okc rfl (by simp)
      rw [List.nil_append, show ([.cells (encC c), .cells (encC d), Pn []] : AH).set 2 (Pn (bytCal c)) = [.cells (encC c), .cells (encC d), Pn (bytCal c)] from rfl] at q3
      have q4 := upU (pbytes_run (p := 2) (l := bytCal c) (h := [.cells (encC c), .cells (encC d), Pn (bytCal c)]) rfl (by have := bytCal_len c; omega))
      have q5 := cbytes_run okc
      have q6 := upU (plain_run okc)
      have q7 := upU (rplain_run (c := c))
      have q8 := upU (rsame_run (a := plC c) (b := plC c) (plC_ok okc))
      rw [decide_eq_true rfl] at q8
      have q9 := upU (same_run (a := c) (b := d) okc)
      have q10 := upU (rsame_run (a := c) (b := d) okc)
      have q11 := upU (same_run (a := c) (b := c) okc)
      rw [decide_eq_true rfl] at q11
      have q12 : rigCal c = true → run U 8 [.agg (encC c)] [] = some (.str ⟨(bytCal c).toArray⟩, []) := fun h => upU (rbytes11_run h)
      have hz : rigCal c = false → bytCal c = [] := fun h => by unfold bytCal; rw [if_neg (by rw [h]; simp)]
      have hE : (decide (c = d) == decide (c = d)) = true := by simp
      generalize decide (c = d) = e at *
      generalize plC c = pc at *
      clear hc hd hg hgd okc okd hcat
      obtain ⟨a1, a2, a3, a4, a5, a6, a7, a8, a9, a10, a11⟩ := c
      obtain ⟨b1, b2, b3, b4, b5, b6, b7, b8, b9, b10, b11⟩ := d
      obtain ⟨p1, p2, p3, p4, p5, p6, p7, p8, p9, p10, p11⟩ := pc
      cases hr : rigCal ⟨a1, a2, a3, a4, a5, a6, a7, a8, a9, a10, a11⟩ with
      | true =>
        have q12 := q12 hr
        rw [hr] at q1 q2 q3
        clear hz
        generalize bytCal ⟨a1, a2, a3, a4, a5, a6, a7, a8, a9, a10, a11⟩ = bc at *
        have hbb : (bc == bc) = true := by simp
        simp only [encC, Pn, List.map_nil] at g1 g2 q1 q2 q3 q4 q5 q6 q7 q8 q9 q10 q11 q12 ⊢
        simp (maxSteps := 8000000) -implicitDefEqProofs (disch := (refine id_ok ?_; first | assumption | omega | (simp [go_sem] <;> omega) | with_unfolding_all rfl | decide)) only [go_sem, Nat.reduceAdd, Nat.reduceSub, Nat.reduceMul, Nat.reduceLeDiff, Nat.reduceEqDiff, Nat.reduceBEq, reduceIte, reduceCtorEq, c_regencylaw11_CallTells, first11, g1, g2, q1, q2, q3, q4, q5, q6, q7, q8, q9, q10, q11, q12, hbb, hE, bq_tt, Bool.not_true]
      | false =>
        have hz := hz hr
        rw [hr] at q1 q2 q3
        rw [hz] at q3 q4 q5
        clear q12 hz
        have hbb : (([] : List UInt8) == []) = true := rfl
        simp only [encC, Pn, List.map_nil] at g1 g2 q1 q2 q3 q4 q5 q6 q7 q8 q9 q10 q11 ⊢
        simp (maxSteps := 8000000) -implicitDefEqProofs (disch := (refine id_ok ?_; first | assumption | omega | (simp [go_sem] <;> omega) | with_unfolding_all rfl | decide)) only [go_sem, Nat.reduceAdd, Nat.reduceSub, Nat.reduceMul, Nat.reduceLeDiff, Nat.reduceEqDiff, Nat.reduceBEq, reduceIte, reduceCtorEq, c_regencylaw11_CallTells, first11, g1, g2, q1, q2, q3, q4, q5, q6, q7, q8, q9, q10, q11, hbb, hE, bq_ff, bytesV0, eql0, Bool.not_true]
end Go.Proofs.YtlcflpanellbfaaGreatDoor.L
