/- The document's right calls are the program's. -/
import Derived.Test.YtibchilpaaiecaaGreatDoorL118
import Derived.KernelRfl
set_option linter.all false
set_option maxRecDepth 100000
set_option maxHeartbeats 32000000
namespace Go.Proofs.YtibchilpaaiecaaGreatDoor.L
open Go.Proofs.YtibchilpaaiecaaGreatDoor.M Go.Proofs.YtibchilpaaiecaaGreatDoor.F Go.Proofs
structure RC (c : Cal) (a l e o s t m w : Prop) : Prop where
 at_ : (c.at_ = [] ∨ a) ∧ rigP c.at_ = true
 lab : (c.lab = [] ∨ l) ∧ rigL c.lab = true
 ent : (c.ent = [] ∨ e) ∧ rigL c.ent = true
 own : (c.own = [] ∨ o) ∧ rigO c.own = true
 seg : (c.seg = [] ∨ s) ∧ rigP c.seg = true
 text : (c.text = [] ∨ t) ∧ c.text.length ≤ 256
 m : (c.m = 0 ∨ m) ∧ 0 ≤ c.m ∧ c.m ≤ 1048576
 write : (c.write = false ∨ w) ∧ c.n ≤ 1048576 ∧ -1048576 ≤ c.n
theorem emp {α : Type} (l : List α) : l.isEmpty = true ↔ l = [] := List.isEmpty_iff
theorem EJ (c : Cal) : refR c = true ↔ ((0 ≤ c.op ∧ c.op ≤ 20) ∧
  RC c (hasP (pS c.op) 97 = true) (hasP (pS c.op) 108 = true) (hasP (pS c.op) 101 = true) (hasP (pS c.op) 111 = true) (hasP (pS c.op) 115 = true) (hasP (pS c.op) 116 = true) (hasP (pS c.op) 109 = true) (hasP (pS c.op) 119 = true)) ∧
  (if hasP (pS c.op) 99 = true then rigC c.cat = true else c.cat = []) ∧ (if hasP (pS c.op) 110 = true then 0 ≤ c.n else (c.n = 0 ∨ hasP (pS c.op) 100 = true)) := by
 unfold refR fi3 fi4 fi5 fi6 fi7 fi8 fi9 fi10 fi11
 generalize pS c.op = p
 have key : ∀ ok : Bool, fi12 c p ok = true ↔ ok = true ∧ (if hasP p 110 = true then 0 ≤ c.n else (c.n = 0 ∨ hasP p 100 = true)) := fun ok => by
  unfold fi12 fi13
  split
  ·simp only [Bool.and_eq_true, decide_eq_true_eq, ge_iff_le]
  ·simp only [Bool.and_eq_true, Bool.or_eq_true, beq_iff_eq]
 have key2 : ∀ ok : Bool, (if hasP p 99 = true then fi12 c p (ok && rigC c.cat) else fi12 c p (ok && (c.cat == []))) = true ↔ ok = true ∧ (if hasP p 99 = true then rigC c.cat = true else c.cat = []) ∧ (if hasP p 110 = true then 0 ≤ c.n else (c.n = 0 ∨ hasP p 100 = true)) := fun ok => by
  split
  ·rw [key]; simp only [Bool.and_eq_true, and_assoc]
  ·rw [key]; simp only [Bool.and_eq_true, and_assoc, beq_iff_eq]
 rw [key2]
 simp only [Bool.and_eq_true, Bool.or_eq_true, decide_eq_true_eq, ge_iff_le, emp, beq_iff_eq, Bool.not_eq_true', and_assoc]
 constructor
 ·rintro ⟨o1, o2, a1, a2, l1, l2, e1, e2, w1, w2, s1, s2, t1, t2, m1, m2, m3, r1, r2, r3, x, y⟩
  exact ⟨o1, o2, ⟨⟨a1, a2⟩, ⟨l1, l2⟩, ⟨e1, e2⟩, ⟨w1, w2⟩, ⟨s1, s2⟩, ⟨t1, t2⟩, ⟨m1, m2, m3⟩, ⟨r1, r2, r3⟩⟩, x, y⟩
 ·rintro ⟨o1, o2, ⟨⟨a1, a2⟩, ⟨l1, l2⟩, ⟨e1, e2⟩, ⟨w1, w2⟩, ⟨s1, s2⟩, ⟨t1, t2⟩, ⟨m1, m2, m3⟩, ⟨r1, r2, r3⟩⟩, x, y⟩
  exact ⟨o1, o2, a1, a2, l1, l2, e1, e2, w1, w2, s1, s2, t1, t2, m1, m2, m3, r1, r2, r3, x, y⟩
def ltr (p : Int) : Int := if p = 0 then 97 else if p = 1 then 108 else if p = 2 then 110 else if p = 3 then 109 else if p = 4 then 101 else if p = 5 then 111 else if p = 6 then 116 else if p = 7 then 99 else if p = 8 then 115 else if p = 9 then 119 else 100
theorem ix (op : Int) {p : Int} (hp : 0 ≤ p ∧ p ≤ 10) : hasP (pS op) (ltr p) = true ↔ p ∈ pL op := by
 by_cases hop : 2 ≤ op ∧ op ≤ 20
 ·rcases dS hop with rfl | rfl | rfl | rfl | rfl | rfl | rfl | rfl | rfl | rfl | rfl | rfl | rfl | rfl | rfl | rfl | rfl | rfl | rfl <;>
  rcases nK hp with rfl | rfl | rfl | rfl | rfl | rfl | rfl | rfl | rfl | rfl | rfl <;> decide
 ·rw [vU hop, pX hop]; simp [hasP]
theorem IE (c : Cal) : eN c = refR c := by
 have m0 := ix c.op (p := 0) (by omega)
 have m1 := ix c.op (p := 1) (by omega)
 have m2 := ix c.op (p := 2) (by omega)
 have m3 := ix c.op (p := 3) (by omega)
 have m4 := ix c.op (p := 4) (by omega)
 have m5 := ix c.op (p := 5) (by omega)
 have m6 := ix c.op (p := 6) (by omega)
 have m7 := ix c.op (p := 7) (by omega)
 have m8 := ix c.op (p := 8) (by omega)
 have m9 := ix c.op (p := 9) (by omega)
 have m10 := ix c.op (p := 10) (by omega)
 simp only [ltr, Int.reduceEq, if_true, if_false, reduceIte] at m0 m1 m2 m3 m4 m5 m6 m7 m8 m9 m10
 have hrg := (pU c.op).2
 have hpe := BP c
 rw [Bool.eq_iff_iff, EJ]
 simp only [m0, m1, m2, m3, m4, m5, m6, m7, m8, m9, m10]
 generalize hps : pL c.op = ps at *
 clear m0 m1 m2 m3 m4 m5 m6 m7 m8 m9 m10
 constructor
 ·intro h
  obtain ⟨ho, hpl, hg⟩ := kY h
  rw [hps] at hg
  rw [hpe] at hpl
  have g0 := fun z => hg 0 z
  have g1 := fun z => hg 1 z
  have g2 := fun z => hg 2 z
  have g3 := fun z => hg 3 z
  have g4 := fun z => hg 4 z
  have g5 := fun z => hg 5 z
  have g6 := fun z => hg 6 z
  have g7 := fun z => hg 7 z
  have g8 := fun z => hg 8 z
  have g10 := fun z => hg 10 z
  simp only [rgP, Int.reduceEq, if_true, if_false, reduceIte, mc, decide_eq_true_eq, Bool.and_eq_true, ge_iff_le] at g0 g1 g2 g3 g4 g5 g6 g7 g8 g10
  have f0 := congrArg Cal.at_ hpl
  have f1 := congrArg Cal.lab hpl
  have f4 := congrArg Cal.ent hpl
  have f5 := congrArg Cal.own hpl
  have fn := congrArg Cal.n hpl
  have f3 := congrArg Cal.m hpl
  have f6 := congrArg Cal.text hpl
  have f7 := congrArg Cal.cat hpl
  have f8 := congrArg Cal.seg hpl
  have f9 := congrArg Cal.write hpl
  simp only at f0 f1 f4 f5 fn f3 f6 f7 f8 f9
  refine ⟨⟨ho, ?_, ?_, ?_, ?_, ?_, ?_, ?_, ?_⟩, ?_, ?_⟩
  ·by_cases z : (0 : Int) ∈ ps
   ·exact ⟨.inr z, g0 z⟩
   ·rw [if_neg z] at f0; rw [← f0]; exact ⟨.inl rfl, oC⟩
  ·by_cases z : (1 : Int) ∈ ps
   ·exact ⟨.inr z, g1 z⟩
   ·rw [if_neg z] at f1; rw [← f1]; exact ⟨.inl rfl, oD⟩
  ·by_cases z : (4 : Int) ∈ ps
   ·exact ⟨.inr z, g4 z⟩
   ·rw [if_neg z] at f4; rw [← f4]; exact ⟨.inl rfl, oD⟩
  ·by_cases z : (5 : Int) ∈ ps
   ·exact ⟨.inr z, g5 z⟩
   ·rw [if_neg z] at f5; rw [← f5]; exact ⟨.inl rfl, oE⟩
  ·by_cases z : (8 : Int) ∈ ps
   ·exact ⟨.inr z, g8 z⟩
   ·rw [if_neg z] at f8; rw [← f8]; exact ⟨.inl rfl, oC⟩
  ·by_cases z : (6 : Int) ∈ ps
   ·exact ⟨.inr z, g6 z⟩
   ·rw [if_neg z] at f6; rw [← f6]; exact ⟨.inl rfl, by simp⟩
  ·by_cases z : (3 : Int) ∈ ps
   ·exact ⟨.inr z, g3 z⟩
   ·rw [if_neg z] at f3; rw [← f3]; exact ⟨.inl rfl, by omega, by omega⟩
  ·have hn : c.n ≤ 1048576 ∧ -1048576 ≤ c.n := by
    by_cases z2 : (2 : Int) ∈ ps
    ·have := g2 z2; omega
    by_cases z10 : (10 : Int) ∈ ps
    ·have := g10 z10; omega
    ·rw [if_neg (by simp [z2, z10])] at fn; omega
   refine ⟨?_, hn⟩
   by_cases z : (9 : Int) ∈ ps
   ·exact .inr z
   ·rw [if_neg z] at f9; exact .inl f9.symm
  ·by_cases z : (7 : Int) ∈ ps
   ·rw [if_pos z]; exact g7 z
   ·rw [if_neg z] at f7 ⊢; exact f7.symm
  ·by_cases z2 : (2 : Int) ∈ ps
   ·rw [if_pos z2]; exact (g2 z2).1
   ·rw [if_neg z2]
    by_cases z10 : (10 : Int) ∈ ps
    ·exact .inr z10
    ·rw [if_neg (by simp [z2, z10])] at fn; exact .inl fn.symm
 ·rintro ⟨⟨ho, r⟩, hcat, hn⟩
  obtain ⟨r0, r1, r4, r5, r8, r6, r3, r9⟩ := r
  have fi : ∀ {α : Type} {P : Prop} [Decidable P] {x y : α}, (x = y ∨ P) → (if P then x else y) = x := fun h => by
   split
   ·rfl
   ·rename_i hp; rcases h with h | h
    ·exact h.symm
    ·exact absurd h hp
  have hpl : plC c = c := by
   rw [hpe]
   obtain ⟨a1, a2, a3, a4, a5, a6, a7, a8, a9, a10, a11⟩ := c
   simp only at r0 r1 r4 r5 r8 r6 r3 r9 hcat hn ⊢
   rw [fi r0.1, fi r1.1, fi r4.1, fi r5.1, fi r3.1, fi r6.1, fi r8.1, fi r9.1]
   congr 1
   ·by_cases z2 : (2 : Int) ∈ ps
    ·rw [if_pos (.inl z2)]
    ·rw [if_neg z2] at hn
     rcases hn with hn | hn
     ·split <;> simp [hn]
     ·rw [if_pos (.inr hn)]
   ·by_cases z : (7 : Int) ∈ ps
    ·rw [if_pos z]
    ·rw [if_neg z] at hcat ⊢; exact hcat.symm
  unfold eN
  rw [hps]
  simp only [Bool.and_eq_true, decide_eq_true_eq, List.all_eq_true]
  refine ⟨⟨⟨ho.1, ho.2⟩, hpl⟩, fun p hp => ?_⟩
  rcases nK (hrg p hp) with rfl | rfl | rfl | rfl | rfl | rfl | rfl | rfl | rfl | rfl | rfl
  all_goals simp only [rgP, Int.reduceEq, if_true, if_false, reduceIte, mc, decide_eq_true_eq, Bool.and_eq_true, ge_iff_le]
  ·exact r0.2
  ·exact r1.2
  ·rw [if_pos hp] at hn; exact ⟨hn, r9.2.1⟩
  ·exact r3.2
  ·exact r4.2
  ·exact r5.2
  ·exact r6.2
  ·rw [if_pos hp] at hcat; exact hcat
  ·exact r8.2
  ·exact ⟨r9.2.2, r9.2.1⟩
end Go.Proofs.YtibchilpaaiecaaGreatDoor.L
/- The document's calls: the same, as bytes, plain (written by tools/mk120.py). -/
set_option linter.all false
set_option maxRecDepth 100000
set_option maxHeartbeats 32000000
namespace Go.Proofs.YtibchilpaaiecaaGreatDoor.L
open Go.Proofs.YtibchilpaaiecaaGreatDoor.M Go.Proofs.YtibchilpaaiecaaGreatDoor.F Go.Proofs
theorem uV {a b : Cal} (ha : okC a) : run T 20 [.agg (encC a), .agg (encC b)] [] = some (.bool (decide (a = b)), []) := by
 have q1 := Bw (a := a.at_) (b := b.at_) (h := []) (by have := ha.at_; omega)
 have q2 := wg (a := a.lab) (b := b.lab) (h := []) (by have := ha.lab; omega)
 have q3 := wg (a := a.ent) (b := b.ent) (h := []) (by have := ha.ent; omega)
 have q4 := Cc (a := a.own) (b := b.own) (h := []) (by have := ha.own; omega)
 have q5 := Bw (a := a.seg) (b := b.seg) (h := []) (by have := ha.seg; omega)
 have q6 := lbU a.text b.text
 have q7 := mZ a.op b.op
 have q8 := mZ a.n b.n
 have q9 := mZ a.m b.m
 have q10 := lbU a.cat b.cat
 have q11 := mZ a.write b.write
 have he : decide (a = b) = (decide (a.op = b.op) && (decide (a.at_ = b.at_) && (decide (a.lab = b.lab) && (decide (a.ent = b.ent) && (decide (a.own = b.own) && (decide (a.n = b.n) && (decide (a.m = b.m) && (decide (a.text = b.text) && (decide (a.cat = b.cat) && (decide (a.seg = b.seg) && decide (a.write = b.write))))))))))) := by
  rw [← Bool.decide_and, ← Bool.decide_and, ← Bool.decide_and, ← Bool.decide_and, ← Bool.decide_and, ← Bool.decide_and, ← Bool.decide_and, ← Bool.decide_and, ← Bool.decide_and, ← Bool.decide_and]
  refine decide_eq_decide.2 ?_
  obtain ⟨a1, a2, a3, a4, a5, a6, a7, a8, a9, a10, a11⟩ := a
  obtain ⟨b1, b2, b3, b4, b5, b6, b7, b8, b9, b10, b11⟩ := b
  simp only [Cal.mk.injEq]
 rw [he, af T_20]
 clear he ha
 obtain ⟨a1, a2, a3, a4, a5, a6, a7, a8, a9, a10, a11⟩ := a
 obtain ⟨b1, b2, b3, b4, b5, b6, b7, b8, b9, b10, b11⟩ := b
 simp only [encC] at q1 q2 q3 q4 q5 q6 q7 q8 q9 q10 q11 ⊢
 generalize decide (a1 = b1) = d1 at *
 generalize decide (a2 = b2) = d2 at *
 generalize decide (a3 = b3) = d3 at *
 generalize decide (a4 = b4) = d4 at *
 generalize decide (a5 = b5) = d5 at *
 generalize decide (a6 = b6) = d6 at *
 generalize decide (a7 = b7) = d7 at *
 generalize decide (a8 = b8) = d8 at *
 generalize decide (a9 = b9) = d9 at *
 generalize decide (a10 = b10) = d10 at *
 generalize decide (a11 = b11) = d11 at *
 cases d1
 ·simp (maxSteps := 4000000) -implicitDefEqProofs (disch := (refine ab ?_; first | assumption | omega | (simp [go_sem] <;> omega) | with_unfolding_all rfl | decide)) only [go_sem, Nat.reduceAdd, Nat.reduceSub, reduceIte, reduceCtorEq, ak, q1, q2, q3, q4, q5, q6, q7, q8, q9, q10, q11, Bool.false_and, Bool.true_and]
 cases d2
 ·simp (maxSteps := 4000000) -implicitDefEqProofs (disch := (refine ab ?_; first | assumption | omega | (simp [go_sem] <;> omega) | with_unfolding_all rfl | decide)) only [go_sem, Nat.reduceAdd, Nat.reduceSub, reduceIte, reduceCtorEq, ak, q1, q2, q3, q4, q5, q6, q7, q8, q9, q10, q11, Bool.false_and, Bool.true_and]
 cases d3
 ·simp (maxSteps := 4000000) -implicitDefEqProofs (disch := (refine ab ?_; first | assumption | omega | (simp [go_sem] <;> omega) | with_unfolding_all rfl | decide)) only [go_sem, Nat.reduceAdd, Nat.reduceSub, reduceIte, reduceCtorEq, ak, q1, q2, q3, q4, q5, q6, q7, q8, q9, q10, q11, Bool.false_and, Bool.true_and]
 cases d4
 ·simp (maxSteps := 4000000) -implicitDefEqProofs (disch := (refine ab ?_; first | assumption | omega | (simp [go_sem] <;> omega) | with_unfolding_all rfl | decide)) only [go_sem, Nat.reduceAdd, Nat.reduceSub, reduceIte, reduceCtorEq, ak, q1, q2, q3, q4, q5, q6, q7, q8, q9, q10, q11, Bool.false_and, Bool.true_and]
 cases d5
 ·simp (maxSteps := 4000000) -implicitDefEqProofs (disch := (refine ab ?_; first | assumption | omega | (simp [go_sem] <;> omega) | with_unfolding_all rfl | decide)) only [go_sem, Nat.reduceAdd, Nat.reduceSub, reduceIte, reduceCtorEq, ak, q1, q2, q3, q4, q5, q6, q7, q8, q9, q10, q11, Bool.false_and, Bool.true_and]
 cases d6
 ·simp (maxSteps := 4000000) -implicitDefEqProofs (disch := (refine ab ?_; first | assumption | omega | (simp [go_sem] <;> omega) | with_unfolding_all rfl | decide)) only [go_sem, Nat.reduceAdd, Nat.reduceSub, reduceIte, reduceCtorEq, ak, q1, q2, q3, q4, q5, q6, q7, q8, q9, q10, q11, Bool.false_and, Bool.true_and]
 cases d7
 ·simp (maxSteps := 4000000) -implicitDefEqProofs (disch := (refine ab ?_; first | assumption | omega | (simp [go_sem] <;> omega) | with_unfolding_all rfl | decide)) only [go_sem, Nat.reduceAdd, Nat.reduceSub, reduceIte, reduceCtorEq, ak, q1, q2, q3, q4, q5, q6, q7, q8, q9, q10, q11, Bool.false_and, Bool.true_and]
 cases d8
 ·simp (maxSteps := 4000000) -implicitDefEqProofs (disch := (refine ab ?_; first | assumption | omega | (simp [go_sem] <;> omega) | with_unfolding_all rfl | decide)) only [go_sem, Nat.reduceAdd, Nat.reduceSub, reduceIte, reduceCtorEq, ak, q1, q2, q3, q4, q5, q6, q7, q8, q9, q10, q11, Bool.false_and, Bool.true_and]
 cases d9
 ·simp (maxSteps := 4000000) -implicitDefEqProofs (disch := (refine ab ?_; first | assumption | omega | (simp [go_sem] <;> omega) | with_unfolding_all rfl | decide)) only [go_sem, Nat.reduceAdd, Nat.reduceSub, reduceIte, reduceCtorEq, ak, q1, q2, q3, q4, q5, q6, q7, q8, q9, q10, q11, Bool.false_and, Bool.true_and]
 cases d10
 ·simp (maxSteps := 4000000) -implicitDefEqProofs (disch := (refine ab ?_; first | assumption | omega | (simp [go_sem] <;> omega) | with_unfolding_all rfl | decide)) only [go_sem, Nat.reduceAdd, Nat.reduceSub, reduceIte, reduceCtorEq, ak, q1, q2, q3, q4, q5, q6, q7, q8, q9, q10, q11, Bool.false_and, Bool.true_and]
 ·simp (maxSteps := 4000000) -implicitDefEqProofs (disch := (refine ab ?_; first | assumption | omega | (simp [go_sem] <;> omega) | with_unfolding_all rfl | decide)) only [go_sem, Nat.reduceAdd, Nat.reduceSub, reduceIte, reduceCtorEq, ak, q1, q2, q3, q4, q5, q6, q7, q8, q9, q10, q11, Bool.false_and, Bool.true_and]
end Go.Proofs.YtibchilpaaiecaaGreatDoor.L
