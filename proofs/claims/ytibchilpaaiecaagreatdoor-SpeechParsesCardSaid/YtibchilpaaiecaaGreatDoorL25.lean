/- Labels: which are right. -/
import Derived.Test.YtibchilpaaiecaaGreatDoorL22
import Derived.Test.YtibchilpaaiecaaGreatDoorL20
set_option linter.all false
set_option maxRecDepth 100000
namespace Go.Proofs.YtibchilpaaiecaaGreatDoor.L
open Go.Proofs.YtibchilpaaiecaaGreatDoor.M Go.Proofs.YtibchilpaaiecaaGreatDoor.F Go.Proofs
abbrev Ent := List UInt8 × Int
def encE (e : Ent) : List AV := [.str ⟨e.1.toArray⟩, .int .i64 e.2]
theorem Fj {p : List Ent} : szOK 2 (p.map encE) = true := by cases p <;> rfl
theorem Fk : ∀ {p : List Ent}, mrLL (p.map encE) = 0
 | [] => rfl
 | a :: p => by simp only [List.map_cons, mrLL, Fk (p := p)]; rfl
attribute [go_sem] Fj Fk
def rigE (prev : Option (List UInt8)) : List Ent → Bool
 | [] => true
 | e :: r => rigC e.1 && !(e.2 == 1) && decide (0 ≤ e.2) && decide (e.2 < 4) && (match prev with | none => true | some p => decide (comC p e.1 < 0)) && rigE (some e.1) r
def rigL (l : List Ent) : Bool := decide (l.length ≤ 8) && rigE none l
def prvE (l : List Ent) (i : Nat) : Option (List UInt8) := if i = 0 then none else (l[i - 1]?).map (·.1)
def HB (l : List Ent) (i : Nat) : AH := (l.take i).map fun e => .cells (encE e)
theorem J8 {e : Ent} {b : List UInt8} (ha : e.1.length ≤ 281474976710656) (hb : b.length ≤ 281474976710656) : run T 97 [.agg (encE e), .str ⟨b.toArray⟩] [] = some (.int .i64 (comC e.1 b), []) := by
 have h1 := xf (h := []) ha hb
 rw [af T_97]
 simp -implicitDefEqProofs (disch := (refine ab ?_; first | assumption | omega | (simp [go_sem] <;> omega) | with_unfolding_all rfl | decide)) only [go_sem, Nat.reduceAdd, Nat.reduceSub, reduceIte, reduceCtorEq, kU, encE, h1]
set_option maxHeartbeats 2000000 in
theorem Bt {l : List Ent} (hl : ∀ e ∈ l, e.1.length ≤ 281474976710656) (h8 : l.length ≤ 8) : ∀ (d i : Nat), d + i = l.length →
  (rigE (prvE l i) (l.drop i) = true ∧ den T (.loop im) (kx (.sl .sh (l.map encE)) (.sl .sh (l.map encE)) (.int .i64 l.length) (.int .i64 i)) (HB l i) = some (.exit 0, pF, HB l l.length)) ∨
  ∃ σ h', den T (.loop im) (kx (.sl .sh (l.map encE)) (.sl .sh (l.map encE)) (.int .i64 l.length) (.int .i64 i)) (HB l i) = some (.ret, σ, h') ∧ σ.getD 2 aa = .bool false ∧ rigE (prvE l i) (l.drop i) = false := by
 intro d
 induction d with
 | zero =>
  intro i hd
  have hd' : decide ((i : Int) < l.length) = false := decide_eq_false (by omega)
  refine .inl ⟨by rw [List.drop_eq_nil_of_le (by omega)]; rfl, ?_⟩
  rw [ae]
  simp -implicitDefEqProofs (disch := (refine ab ?_; first | assumption | omega | (simp [go_sem] <;> omega) | with_unfolding_all rfl | decide)) only [go_sem, Nat.reduceAdd, Nat.reduceSub, reduceIte, reduceCtorEq, hd']
  rw [show i = l.length by omega]
 | succ d ih =>
  intro i hd
  have hib : i < l.length := by omega
  have hd' : decide ((i : Int) < l.length) = true := decide_eq_true (by omega)
  have hge : (l.map encE)[(i : Int).toNat]? = some (encE l[i]) := by simp [hib]
  have hdr : l.drop i = l[i] :: l.drop (i + 1) := List.drop_eq_getElem_cons hib
  have hH : HB l (i + 1) = HB l i ++ [.cells (encE l[i])] := by unfold HB; rw [List.take_succ_eq_append_getElem hib, List.map_append]; rfl
  have hHl : (HB l i).length = i := by unfold HB; simp; omega
  have hpr : prvE l (i + 1) = some l[i].1 := by simp [prvE, hib]
  have hcl := hl l[i] (by simp)
  have ih' := ih (i + 1) (by omega)
  rw [hpr, hH] at ih'
  have hprv : i ≠ 0 → ∃ p : Ent, (l.map encE)[((i : Int) - 1).toNat]? = some (encE p) ∧ prvE l i = some p.1 ∧ p.1.length ≤ 281474976710656 := by
   intro h0
   have hj : i - 1 < l.length := by omega
   refine ⟨l[i - 1], ?_, ?_, hl _ (by simp)⟩
   ·rw [show ((i : Int) - 1).toNat = i - 1 by omega]; simp [hj]
   ·simp [prvE, h0, hj]
  rw [hdr]
  generalize l[i] = e at *
  obtain ⟨c, v⟩ := e
  simp only at hcl ih' hpr
  have h1 := sH (h := []) hcl
  simp only [rigE]
  cases hc : rigC c with
  | false =>
   rw [hc] at h1
   right
   rw [ae]
   simp -implicitDefEqProofs (disch := (refine ab ?_; first | assumption | omega | (simp [go_sem] <;> omega) | with_unfolding_all rfl | decide)) only [go_sem, Nat.reduceAdd, Nat.reduceSub, reduceIte, reduceCtorEq, hd', hge, encE, h1]
   exact ⟨_, _, ⟨rfl, rfl⟩, rfl, rfl⟩
  | true =>
   rw [hc] at h1
   by_cases hv1 : v = 1
   ·have e1 : (v == 1) = true := by simp [hv1]
    right
    rw [ae]
    simp -implicitDefEqProofs (disch := (refine ab ?_; first | assumption | omega | (simp [go_sem] <;> omega) | with_unfolding_all rfl | decide)) only [go_sem, Nat.reduceAdd, Nat.reduceSub, reduceIte, reduceCtorEq, hd', hge, encE, h1, e1]
    exact ⟨_, _, ⟨rfl, rfl⟩, rfl, rfl⟩
   ·have e1 : (v == 1) = false := by simp [hv1]
    by_cases hv2 : v < 0
    ·have e2 : decide (v < 0) = true := decide_eq_true hv2
     have e2' : decide (0 ≤ v) = false := decide_eq_false (by omega)
     right
     rw [ae]
     simp -implicitDefEqProofs (disch := (refine ab ?_; first | assumption | omega | (simp [go_sem] <;> omega) | with_unfolding_all rfl | decide)) only [go_sem, Nat.reduceAdd, Nat.reduceSub, reduceIte, reduceCtorEq, hd', hge, encE, h1, e1, e2, e2']
     exact ⟨_, _, ⟨rfl, rfl⟩, rfl, rfl⟩
    ·have e2 : decide (v < 0) = false := decide_eq_false hv2
     have e2' : decide (0 ≤ v) = true := decide_eq_true (by omega)
     by_cases hv3 : v ≥ 4
     ·have e3 : decide (v ≥ 4) = true := decide_eq_true hv3
      have e3' : decide (v < 4) = false := decide_eq_false (by omega)
      right
      rw [ae]
      simp -implicitDefEqProofs (disch := (refine ab ?_; first | assumption | omega | (simp [go_sem] <;> omega) | with_unfolding_all rfl | decide)) only [go_sem, Nat.reduceAdd, Nat.reduceSub, reduceIte, reduceCtorEq, hd', hge, encE, h1, e1, e2, e2', e3, e3']
      exact ⟨_, _, ⟨rfl, rfl⟩, rfl, rfl⟩
     ·have e3 : decide (v ≥ 4) = false := decide_eq_false hv3
      have e3' : decide (v < 4) = true := decide_eq_true (by omega)
      have e7 : IntKind.i64.wrap ((i : Int) + 1) = ((i + 1 : Nat) : Int) := by rw [w64 (by omega) (by omega)]; rfl
      simp only [e1, e2', e3', Bool.not_false, Bool.and_true, Bool.true_and]
      by_cases h0 : i = 0
      ·have e4 : decide ((i : Int) > 0) = false := decide_eq_false (by omega)
       have hp0 : prvE l i = none := by simp [prvE, h0]
       rw [hp0]
       simp only [Bool.true_and]
       rw [ae]
       simp -implicitDefEqProofs (disch := (refine ab ?_; first | assumption | omega | (simp [go_sem] <;> omega) | with_unfolding_all rfl | decide)) only [go_sem, Nat.reduceAdd, Nat.reduceSub, reduceIte, reduceCtorEq, hd', hge, encE, h1, e1, e2, e3, e4, e7]
       exact ih'
      ·have e4 : decide ((i : Int) > 0) = true := decide_eq_true (by omega)
       obtain ⟨q, hq1, hq2, hq3⟩ := hprv h0
       have ha := J8 (e := q) (b := c) hq3 hcl
       have e5 : IntKind.i64.wrap ((i : Int) - 1) = (i : Int) - 1 := w64 (by omega) (by omega)
       rw [hq2]
       simp only
       by_cases hcc : comC q.1 c ≥ 0
       ·have e6 : decide (comC q.1 c ≥ 0) = true := decide_eq_true hcc
        have e6' : decide (comC q.1 c < 0) = false := decide_eq_false (by omega)
        right
        rw [ae]
        simp only [encE] at hq1 ha
        simp -implicitDefEqProofs (disch := (refine ab ?_; first | assumption | omega | (simp [go_sem] <;> omega) | with_unfolding_all rfl | decide)) only [go_sem, Nat.reduceAdd, Nat.reduceSub, reduceIte, reduceCtorEq, hd', hge, encE, h1, e1, e2, e3, e4, e5, hq1, ha, e6, e6']
        exact ⟨_, _, ⟨rfl, rfl⟩, rfl, rfl⟩
       ·have e6 : decide (comC q.1 c ≥ 0) = false := decide_eq_false hcc
        have e6' : decide (comC q.1 c < 0) = true := decide_eq_true (by omega)
        simp only [e6', Bool.true_and]
        rw [ae]
        simp only [encE] at hq1 ha
        simp -implicitDefEqProofs (disch := (refine ab ?_; first | assumption | omega | (simp [go_sem] <;> omega) | with_unfolding_all rfl | decide)) only [go_sem, Nat.reduceAdd, Nat.reduceSub, reduceIte, reduceCtorEq, hd', hge, encE, h1, e1, e2, e3, e4, e5, hq1, ha, e6, e7]
        exact ih'
theorem sK {l : List Ent} (hl : ∀ e ∈ l, e.1.length ≤ 281474976710656) : run T 58 [.sl .sh (l.map encE)] [] = some (.bool (rigL l), []) := by
 rw [af T_58]
 unfold rigL
 by_cases h8 : l.length ≤ 8
 ·have e1 : decide ((l.length : Int) > 8) = false := decide_eq_false (by omega)
  have hlp := Bt hl h8 l.length 0 (by omega)
  simp only [List.drop_zero, show ((0 : Nat) : Int) = 0 from rfl, show HB l 0 = [] from rfl, show prvE l 0 = none from rfl] at hlp
  rw [decide_eq_true h8, Bool.true_and]
  rcases hlp with ⟨h1, h2⟩ | ⟨σ, h', h1, h2, h3⟩
  ·rw [h1]
   simp -implicitDefEqProofs (disch := (refine ab ?_; first | assumption | omega | (simp [go_sem] <;> omega) | with_unfolding_all rfl | decide)) only [go_sem, Nat.reduceAdd, Nat.reduceSub, reduceIte, reduceCtorEq, eI, List.length_map, e1, h2]
  ·rw [h3]
   simp -implicitDefEqProofs (disch := (refine ab ?_; first | assumption | omega | (simp [go_sem] <;> omega) | with_unfolding_all rfl | decide)) only [go_sem, Nat.reduceAdd, Nat.reduceSub, reduceIte, reduceCtorEq, eI, List.length_map, e1, h1, h2]
 ·have e1 : decide ((l.length : Int) > 8) = true := decide_eq_true (by omega)
  rw [decide_eq_false h8, Bool.false_and]
  simp -implicitDefEqProofs (disch := (refine ab ?_; first | assumption | omega | (simp [go_sem] <;> omega) | with_unfolding_all rfl | decide)) only [go_sem, Nat.reduceAdd, Nat.reduceSub, reduceIte, reduceCtorEq, eI, List.length_map, e1]
end Go.Proofs.YtibchilpaaiecaaGreatDoor.L
/- Labels: written and read. -/
set_option linter.all false
set_option maxRecDepth 100000
namespace Go.Proofs.YtibchilpaaiecaaGreatDoor.L
open Go.Proofs.YtibchilpaaiecaaGreatDoor.M Go.Proofs.YtibchilpaaiecaaGreatDoor.F Go.Proofs
def bxE (e : Ent) : Bx := .cells (encE e)
end Go.Proofs.YtibchilpaaiecaaGreatDoor.L
