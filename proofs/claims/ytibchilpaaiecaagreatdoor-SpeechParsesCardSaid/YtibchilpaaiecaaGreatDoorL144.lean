/- SpeechParses: what its function comes to. -/
import Derived.Test.YtibchilpaaiecaaGreatDoorL143
import Derived.KernelRfl
set_option linter.all false
set_option maxRecDepth 100000
set_option maxHeartbeats 32000000
namespace Go.Proofs.YtibchilpaaiecaaGreatDoor.L
open Go.Proofs.YtibchilpaaiecaaGreatDoor.M Go.Proofs.YtibchilpaaiecaaGreatDoor.F Go.Proofs
theorem Kr : ((true : Bool) == true) = true := rfl
theorem Ks : ((false : Bool) == false) = true := rfl
theorem tb : run U 6 [] [] = some (.bool true, []) := fm (n := 300) (by kernel_rfl)
theorem EN {s : List UInt8} {e : Int} (h : parT s = .error e) : e = 30 ∨ e = 10 := by
 unfold parT at h
 split at h
 ·cases h; exact .inl rfl
 ·split at h
  ·cases h
  ·cases h; exact .inr rfl
theorem IK {s : List UInt8} {c : Cal} (h : parT s = .ok c) : c = mkC s := by
 unfold parT at h
 split at h
 ·cases h
 ·split at h
  ·cases h; rfl
  ·cases h
theorem uW {s : List UInt8} : run U 5 [.str ⟨s.toArray⟩] [] = some (.bool true, []) := by
 have hz : (⟨s.toArray⟩ : ByteArray).size = s.length := by simp [ByteArray.size]
 rw [af (show U 5 = some (.code ax) from rfl)]
 by_cases h9 : (s.length : Int) > 900
 ·have d1 : decide ((s.length : Int) > 900) = true := decide_eq_true h9
  simp (maxSteps := 4000000) -implicitDefEqProofs (disch := (refine ab ?_; first | assumption | omega | (simp [go_sem] <;> omega) | with_unfolding_all rfl | decide)) only [go_sem, Nat.reduceAdd, Nat.reduceSub, reduceIte, reduceCtorEq, ax, tb, hz, d1, Bool.not_true]
 ·have d1 : decide ((s.length : Int) > 900) = false := decide_eq_false h9
  have q1 := we (s := s) (h := []) (by omega) fun _ => Ci (by omega)
  have q2 := upU (y5 (s := s) (by omega))
  rw [IC] at q2
  have q3 := upU (B6 (s := s) (by omega))
  have q4 := upU (x5 (s := s) (by omega))
  rw [yc] at q4
  have q5 := xM (s := s) (by omega)
  have q6 := upU (x6 (s := s) (by omega))
  have q7 := upU (wg (a := (labP s).1) (b := (labP s).1) (h := []) (by have := (gf (s7 s)).2; omega))
  have q8 := upU (Cc (a := (ownP s).1) (b := (ownP s).1) (h := []) (by have := (jA (s8 s)).1; omega))
  rw [decide_eq_true rfl] at q7 q8
  have v1 := B7 s
  have okc : okC (mkC s) := Ci (by omega)
  have hsp : (([115, 112, 101, 101, 99, 104] : List UInt8) == [115, 112, 101, 101, 99, 104]) = true := rfl
  generalize ownV s = vo at *
  generalize hlp : labP s = lp at *
  generalize hop : ownP s = op at *
  obtain ⟨l1, l2⟩ := lp
  obtain ⟨o1, o2⟩ := op
  simp only at q3 q4 q5 q6 q7 q8 v1
  clear hlp hop
  cases hp : parT s with
  | ok c =>
   have hc := IK hp
   rw [← hc] at okc
   unfold resT at q1
   rw [hp] at q1 q2
   simp only [IB] at q1 q2
   have q9 := upU (uV (a := c) (b := c) okc)
   rw [decide_eq_true rfl] at q9
   have q10 := fun H => upU (Ez (H := H))
   clear hp hc okc
   obtain ⟨a1, a2, a3, a4, a5, a6, a7, a8, a9, a10, a11⟩ := c
   simp only [encC] at q1 q2 q9 ⊢
   cases l2 <;> cases o2 <;>
   simp (maxSteps := 8000000) -implicitDefEqProofs (disch := (refine ab ?_; first | assumption | omega | (simp [go_sem] <;> omega) | with_unfolding_all rfl | decide)) only [go_sem, Nat.reduceAdd, Nat.reduceSub, reduceIte, reduceCtorEq, ax, tb, hz, d1, q1, q2, q3, q4, q5, q6, q7, q8, q9, q10, v1, Bool.not_true, Int.reduceBEq, Kr, Ks]
  | error e =>
   have he := EN hp
   unfold resT at q1
   rw [hp] at q1 q2
   simp only [IB] at q1 q2
   have q9 := upU (uV (a := eA 0) (b := eA 0) (sR 0))
   rw [decide_eq_true rfl] at q9
   have q10 := fun H => upU (It (e := e) (H := H))
   have q11 := fun H => upU (EA (e := e) (H := H))
   have q12 := fun H => upU (EB (e := e) (H := H))
   have e1 : (e != e) = false := by simp
   have e2 : (e != 0) = true := by rcases he with rfl | rfl <;> rfl
   clear hp he okc
   simp only [encC, eA, List.map_nil, fT, spB] at q1 q2 q9 q10 q11 q12 ⊢
   cases l2 <;> cases o2 <;>
   simp (maxSteps := 8000000) -implicitDefEqProofs (disch := (refine ab ?_; first | assumption | omega | (simp [go_sem] <;> omega) | with_unfolding_all rfl | decide)) only [go_sem, Nat.reduceAdd, Nat.reduceSub, reduceIte, reduceCtorEq, ax, tb, hz, d1, q1, q2, q3, q4, q5, q6, q7, q8, q9, q10, q11, q12, e1, e2, hsp, v1, Bool.not_true, Bool.not_false, Int.reduceBEq, Kr, Ks]
end Go.Proofs.YtibchilpaaiecaaGreatDoor.L
