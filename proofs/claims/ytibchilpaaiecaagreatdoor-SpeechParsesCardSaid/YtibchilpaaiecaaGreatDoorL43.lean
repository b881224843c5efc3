/- The document's categories compared; its right labels. -/
import Derived.Test.YtibchilpaaiecaaGreatDoorL40
import Derived.Test.YtibchilpaaiecaaGreatDoorL39
import Derived.Test.YtibchilpaaiecaaGreatDoorL57
set_option linter.all false
set_option maxRecDepth 100000
namespace Go.Proofs.YtibchilpaaiecaaGreatDoor.L
open Go.Proofs.YtibchilpaaiecaaGreatDoor.M Go.Proofs.YtibchilpaaiecaaGreatDoor.F Go.Proofs
def HA (p : List Int) (m : Int) (q : List Int) (n : Int) : AH := [.cells [.sl .sh (p.map encI), .int .i64 m], .cells [.sl .sh (q.map encI), .int .i64 n]]
set_option maxHeartbeats 4000000 in
theorem Ej {p q : List Int} {m n : Int} (hp : p.length ≤ 1000) (hq : q.length ≤ 1000) : ∀ (d i : Nat), d + i = p.length → i ≤ q.length →
  ∃ σ, den T (.loop fP) (j4 (.box 0 0) (.box 1 0) (.int .i64 i)) (HA p m q n) = some (.ret, σ, HA p m q n) ∧ σ.getD 4 aa = .bool (ahdC (p.drop i) m (q.drop i) n) := by
 intro d
 induction d with
 | zero =>
  intro i hd hi
  have e1 : ((i : Int) == (p.length : Int)) = true := by simp; omega
  rw [List.drop_eq_nil_of_le (show p.length ≤ i by omega)]
  by_cases hl : q.length = i
  ·have e2 : ((p.length : Int) != (q.length : Int)) = false := by simp; omega
   rw [List.drop_eq_nil_of_le (show q.length ≤ i by omega)]
   simp only [ahdC]
   rw [ae]
   simp (maxSteps := 2000000) -implicitDefEqProofs (disch := (refine ab ?_; first | assumption | omega | (simp [go_sem] <;> omega) | with_unfolding_all rfl | decide)) only [go_sem, Nat.reduceAdd, Nat.reduceSub, reduceIte, reduceCtorEq, HA, List.length_map, e1, e2]
   exact ⟨_, rfl, rfl⟩
  ·have e2 : ((p.length : Int) != (q.length : Int)) = true := by simp; omega
   rw [List.drop_eq_getElem_cons (show i < q.length by omega)]
   simp only [ahdC]
   rw [ae]
   simp (maxSteps := 2000000) -implicitDefEqProofs (disch := (refine ab ?_; first | assumption | omega | (simp [go_sem] <;> omega) | with_unfolding_all rfl | decide)) only [go_sem, Nat.reduceAdd, Nat.reduceSub, reduceIte, reduceCtorEq, HA, List.length_map, e1, e2]
   exact ⟨_, rfl, rfl⟩
 | succ d ih =>
  intro i hd hi
  have hib : i < p.length := by omega
  have e1 : ((i : Int) == (p.length : Int)) = false := by simp; omega
  have hgp : (p.map encI)[(i : Int).toNat]? = some (encI p[i]) := by simp [hib]
  have hdp : p.drop i = p[i] :: p.drop (i + 1) := List.drop_eq_getElem_cons hib
  rw [hdp]
  generalize p[i] = x at *
  by_cases hl : q.length = i
  ·have e3 : ((i : Int) == (q.length : Int)) = true := by simp; omega
   have e2 : ((p.length : Int) != (q.length : Int)) = true := by simp; omega
   rw [List.drop_eq_nil_of_le (show q.length ≤ i by omega)]
   simp only [ahdC]
   rw [ae]
   simp (maxSteps := 2000000) -implicitDefEqProofs (disch := (refine ab ?_; first | assumption | omega | (simp [go_sem] <;> omega) | with_unfolding_all rfl | decide)) only [go_sem, Nat.reduceAdd, Nat.reduceSub, reduceIte, reduceCtorEq, HA, List.length_map, e1, e2, e3]
   exact ⟨_, rfl, rfl⟩
  ·have hiq : i < q.length := by omega
   have e3 : ((i : Int) == (q.length : Int)) = false := by simp; omega
   have hgq : (q.map encI)[(i : Int).toNat]? = some (encI q[i]) := by simp [hiq]
   have hdq : q.drop i = q[i] :: q.drop (i + 1) := List.drop_eq_getElem_cons hiq
   rw [hdq]
   generalize q[i] = y at *
   have e7 := uF (n := i) (by omega)
   simp only [ahdC]
   by_cases hxy : x = y
   ·have e4 : (x != y) = false := by simp [hxy]
    rw [if_pos hxy]
    have := ih (i + 1) (by omega) (by omega)
    simp only [HA] at this ⊢
    rw [ae]
    simp (maxSteps := 2000000) -implicitDefEqProofs (disch := (refine ab ?_; first | assumption | omega | (simp [go_sem] <;> omega) | with_unfolding_all rfl | decide)) only [go_sem, Nat.reduceAdd, Nat.reduceSub, reduceIte, reduceCtorEq, List.length_map, e1, e3, hgp, hgq, encI, e4, e7]
    exact this
   ·have e4 : (x != y) = true := by simp [hxy]
    rw [if_neg hxy]
    rw [ae]
    simp (maxSteps := 2000000) -implicitDefEqProofs (disch := (refine ab ?_; first | assumption | omega | (simp [go_sem] <;> omega) | with_unfolding_all rfl | decide)) only [go_sem, Nat.reduceAdd, Nat.reduceSub, reduceIte, reduceCtorEq, HA, List.length_map, e1, e3, hgp, hgq, encI, e4]
    exact ⟨_, rfl, rfl⟩
theorem Ib {p q : List Int} {m n : Int} (hp : p.length ≤ 1000) (hq : q.length ≤ 1000) : run T 127 [.agg [.sl .sh (p.map encI), .int .i64 m], .agg [.sl .sh (q.map encI), .int .i64 n]] [] = some (.bool (ahdC p m q n), []) := by
 obtain ⟨σ, h1, h2⟩ := Ej (m := m) (n := n) hp hq p.length 0 (by omega) (by omega)
 simp only [List.drop_zero, show ((0 : Nat) : Int) = 0 from rfl, HA] at h1 h2
 rw [af La]
 simp (maxSteps := 2000000) -implicitDefEqProofs (disch := (refine ab ?_; first | assumption | omega | (simp [go_sem] <;> omega) | with_unfolding_all rfl | decide)) only [go_sem, Nat.reduceAdd, Nat.reduceSub, reduceIte, reduceCtorEq, dA, h1, h2]
def cmpR (a b : List UInt8) : Int := if ahdC (parC a).1 (parC a).2.1 (parC b).1 (parC b).2.1 = true then -1 else if a = b then 0 else 1
theorem xP {a b : List UInt8} {h : AH} (ha : a.length ≤ 1000000000) (hb : b.length ≤ 1000000000) (ra : rigC a = true) (rb : rigC b = true) : run T 99 [.str ⟨a.toArray⟩, .str ⟨b.toArray⟩] h = some (.int .i64 (cmpR a b), h) := by
 have h1 := kZ ha
 have h2 := kZ hb
 have l1 := mT a
 have l2 := mT b
 unfold rigC at ra rb
 rw [ra] at h1
 rw [rb] at h2
 have h3 := Ib (p := (parC a).1) (m := (parC a).2.1) (q := (parC b).1) (n := (parC b).2.1) (by omega) (by omega)
 rw [af T_99]
 unfold cmpR
 generalize (parC a).1 = p at *
 generalize (parC a).2.1 = m at *
 generalize (parC b).1 = q at *
 generalize (parC b).2.1 = n at *
 cases ho : ahdC p m q n with
 | true =>
  rw [ho] at h3
  simp only [if_true]
  simp (maxSteps := 2000000) -implicitDefEqProofs (disch := (refine ab ?_; first | assumption | omega | (simp [go_sem] <;> omega) | with_unfolding_all rfl | decide)) only [go_sem, Nat.reduceAdd, Nat.reduceSub, reduceIte, reduceCtorEq, bA, nH, nI, ew, ey, h1, h2, h3]
 | false =>
  rw [ho] at h3
  by_cases hab : a = b
  ·have e1 : (a == b) = true := by simp [hab]
   simp only [Bool.false_eq_true, if_false]
   rw [if_pos hab]
   simp (maxSteps := 2000000) -implicitDefEqProofs (disch := (refine ab ?_; first | assumption | omega | (simp [go_sem] <;> omega) | with_unfolding_all rfl | decide)) only [go_sem, Nat.reduceAdd, Nat.reduceSub, reduceIte, reduceCtorEq, bA, nH, nI, ew, ey, h1, h2, h3, e1]
  ·have e1 : (a == b) = false := by simp [hab]
   simp only [Bool.false_eq_true, if_false]
   rw [if_neg hab]
   simp (maxSteps := 2000000) -implicitDefEqProofs (disch := (refine ab ?_; first | assumption | omega | (simp [go_sem] <;> omega) | with_unfolding_all rfl | decide)) only [go_sem, Nat.reduceAdd, Nat.reduceSub, reduceIte, reduceCtorEq, bA, nH, nI, ew, ey, h1, h2, h3, e1]
theorem xQ {a b : List UInt8} (ra : rigC a = true) (rb : rigC b = true) : (cmpR a b != -1) = !decide (comC a b < 0) := by
 have h := DX ra rb
 unfold cmpR
 split
 ·rename_i hc
  rw [decide_eq_true (h.2 hc)]; rfl
 ·rename_i hc
  rw [decide_eq_false (fun x => hc (h.1 x))]
  split <;> rfl
set_option maxHeartbeats 4000000 in
theorem Cb {l : List Ent} {h : AH} (hl : ∀ e ∈ l, e.1.length ≤ 1000000000) (h8 : l.length ≤ 8) : ∀ (d i : Nat), d + i = l.length → (∀ p, prvE l i = some p → rigC p = true) →
    (rigE (prvE l i) (l.drop i) = true ∧ den T (.loop aT) (bu (.sl .sh (l.map encE)) (.int .i64 l.length) (.int .i64 i)) h = some (.exit 0, jY, h)) ∨
    ∃ σ, den T (.loop aT) (bu (.sl .sh (l.map encE)) (.int .i64 l.length) (.int .i64 i)) h = some (.ret, σ, h) ∧ σ.getD 2 aa = .bool false ∧ rigE (prvE l i) (l.drop i) = false := by
  intro d
  induction d with
  | zero =>
    intro i hd _
    have hd' : decide ((i : Int) < l.length) = false := decide_eq_false (by omega)
    refine .inl ⟨by rw [List.drop_eq_nil_of_le (by omega)]; rfl, ?_⟩
    rw [ae]
    simp -implicitDefEqProofs (disch := (refine ab ?_; first | assumption | omega | (simp [go_sem] <;> omega) | with_unfolding_all rfl | decide)) only [go_sem, Nat.reduceAdd, Nat.reduceSub, reduceIte, reduceCtorEq, hd']
  | succ d ih =>
    intro i hd hpv
    have hib : i < l.length := by omega
    have hd' : decide ((i : Int) < l.length) = true := decide_eq_true (by omega)
    have hge : (l.map encE)[(i : Int).toNat]? = some (encE l[i]) := by simp [hib]
    have hdr : l.drop i = l[i] :: l.drop (i + 1) := List.drop_eq_getElem_cons hib
    have hpr : prvE l (i + 1) = some l[i].1 := by simp [prvE, hib]
    have hcl := hl l[i] (by simp)
    have ih' := ih (i + 1) (by omega)
    rw [hpr] at ih'
    have hprv : i ≠ 0 → ∃ p : Ent, (l.map encE)[((i : Int) - 1).toNat]? = some (encE p) ∧ prvE l i = some p.1 ∧ p.1.length ≤ 1000000000 := by
      intro h0
      have hj : i - 1 < l.length := by omega
      refine ⟨l[i - 1], ?_, ?_, hl _ (by simp)⟩
      · rw [show ((i : Int) - 1).toNat = i - 1 by omega]; simp [hj]
      · simp [prvE, h0, hj]
    rw [hdr]
    generalize l[i] = e at *
    obtain ⟨c, v⟩ := e
    simp only at hcl ih' hpr
    have h1 := BV (h := []) hcl
    simp only [rigE]
    cases hc : rigC c with
    | false =>
      rw [hc] at h1
      right
      rw [ae]
      simp (maxSteps := 2000000) -implicitDefEqProofs (disch := (refine ab ?_; first | assumption | omega | (simp [go_sem] <;> omega) | with_unfolding_all rfl | decide)) only [go_sem, Nat.reduceAdd, Nat.reduceSub, reduceIte, reduceCtorEq, hd', hge, encE, h1]
      exact ⟨_, rfl, rfl, rfl⟩
    | true =>
      rw [hc] at h1
      have ih'' := ih' (fun p hp => by cases hp; exact hc)
      have hlv : ∃ b0 b2 b3 : Bool, (v != 0) = b0 ∧ (v != 2) = b2 ∧ (v != 3) = b3 ∧ (!(v == 1) && decide (0 ≤ v) && decide (v < 4)) = !(b0 && (b2 && b3)) := by
        refine ⟨_, _, _, rfl, rfl, rfl, ?_⟩
        by_cases q0 : v = 0
        · subst q0; rfl
        · by_cases q2 : v = 2
          · subst q2; rfl
          · by_cases q3 : v = 3
            · subst q3; rfl
            · have : (v != 0 && (v != 2 && v != 3)) = true := by simp [q0, q2, q3]
              rw [this]
              by_cases q1 : v = 1
              · subst q1; rfl
              · by_cases q4 : 0 ≤ v
                · rw [decide_eq_false (show ¬ v < 4 by omega)]; simp
                · rw [decide_eq_false q4]; simp
      obtain ⟨b0, b2, b3, e0, e2, e3, hlv⟩ := hlv
      rw [Bool.true_and, hlv]
      have hbad : (b0 && (b2 && b3)) = true ∨ (b0 && (b2 && b3)) = false := by cases b0 <;> cases b2 <;> cases b3 <;> simp
      rcases hbad with hb | hb
      · obtain ⟨rfl, rfl, rfl⟩ : b0 = true ∧ b2 = true ∧ b3 = true := by simpa using hb
        right
        rw [ae]
        simp (maxSteps := 2000000) -implicitDefEqProofs (disch := (refine ab ?_; first | assumption | omega | (simp [go_sem] <;> omega) | with_unfolding_all rfl | decide)) only [go_sem, Nat.reduceAdd, Nat.reduceSub, reduceIte, reduceCtorEq, hd', hge, encE, h1, e0, e2, e3]
        exact ⟨_, rfl, rfl, rfl⟩
      · have e7 := uF (n := i) (by omega)
        rw [hb]
        simp only [Bool.not_false, Bool.true_and]
        by_cases h0 : i = 0
        · have e4 : decide ((i : Int) > 0) = false := decide_eq_false (by omega)
          have hp0 : prvE l i = none := by simp [prvE, h0]
          rw [hp0]
          simp only [Bool.true_and]
          have hstep : den T (.loop aT) (bu (.sl .sh (l.map encE)) (.int .i64 l.length) (.int .i64 i)) h = den T (.loop aT) (bu (.sl .sh (l.map encE)) (.int .i64 l.length) (.int .i64 (i + 1 : Nat))) h := by
            cases b0 <;> cases b2 <;> cases b3 <;> first
              | (simp at hb; done)
              | (rw [ae]
                 simp (maxSteps := 2000000) -implicitDefEqProofs (disch := (refine ab ?_; first | assumption | omega | (simp [go_sem] <;> omega) | with_unfolding_all rfl | decide)) only [go_sem, Nat.reduceAdd, Nat.reduceSub, reduceIte, reduceCtorEq, hd', hge, encE, h1, e0, e2, e3, e4, e7])
          rw [hstep]
          exact ih''
        · have e4 : decide ((i : Int) > 0) = true := decide_eq_true (by omega)
          obtain ⟨q, hq1, hq2, hq3⟩ := hprv h0
          have hrq := hpv _ hq2
          have ha := xP (h := []) hq3 hcl hrq hc
          have hcc := xQ hrq hc
          have e5 : IntKind.i64.wrap ((i : Int) - 1) = (i : Int) - 1 := w64 (by omega) (by omega)
          rw [hq2]
          simp only
          simp only [encE] at hq1
          cases hco : decide (comC q.1 c < 0) with
          | true =>
            rw [hco, Bool.not_true] at hcc
            simp only [Bool.true_and]
            have hstep : den T (.loop aT) (bu (.sl .sh (l.map encE)) (.int .i64 l.length) (.int .i64 i)) h = den T (.loop aT) (bu (.sl .sh (l.map encE)) (.int .i64 l.length) (.int .i64 (i + 1 : Nat))) h := by
              cases b0 <;> cases b2 <;> cases b3 <;> first
                | (simp at hb; done)
                | (rw [ae]
                   simp (maxSteps := 2000000) -implicitDefEqProofs (disch := (refine ab ?_; first | assumption | omega | (simp [go_sem] <;> omega) | with_unfolding_all rfl | decide)) only [go_sem, Nat.reduceAdd, Nat.reduceSub, reduceIte, reduceCtorEq, hd', hge, encE, h1, e0, e2, e3, e4, e5, hq1, ha, hcc, e7])
            rw [hstep]
            exact ih''
          | false =>
            rw [hco, Bool.not_false] at hcc
            right
            simp only [Bool.false_and]
            cases b0 <;> cases b2 <;> cases b3 <;> first
                | (simp at hb; done)
                | (rw [ae]
                   simp (maxSteps := 2000000) -implicitDefEqProofs (disch := (refine ab ?_; first | assumption | omega | (simp [go_sem] <;> omega) | with_unfolding_all rfl | decide)) only [go_sem, Nat.reduceAdd, Nat.reduceSub, reduceIte, reduceCtorEq, hd', hge, encE, h1, e0, e2, e3, e4, e5, hq1, ha, hcc]
                   exact ⟨_, rfl, rfl⟩)
theorem sX {l : List Ent} {h : AH} (hl : ∀ e ∈ l, e.1.length ≤ 1000000000) : run T 60 [.sl .sh (l.map encE)] h = some (.bool (rigL l), h) := by
 rw [af T_60]
 unfold rigL
 by_cases h8 : l.length ≤ 8
 ·have e1 : decide ((l.length : Int) > 8) = false := decide_eq_false (by omega)
  have hlp := Cb (h := h) hl h8 l.length 0 (by omega) (fun p hp => by cases hp)
  simp only [List.drop_zero, show ((0 : Nat) : Int) = 0 from rfl, show prvE l 0 = none from rfl] at hlp
  rw [decide_eq_true h8, Bool.true_and]
  rcases hlp with ⟨h1, h2⟩ | ⟨σ, h1, h2, h3⟩
  ·rw [h1]
   simp -implicitDefEqProofs (disch := (refine ab ?_; first | assumption | omega | (simp [go_sem] <;> omega) | with_unfolding_all rfl | decide)) only [go_sem, Nat.reduceAdd, Nat.reduceSub, reduceIte, reduceCtorEq, bM, List.length_map, e1, h2]
  ·rw [h3]
   simp -implicitDefEqProofs (disch := (refine ab ?_; first | assumption | omega | (simp [go_sem] <;> omega) | with_unfolding_all rfl | decide)) only [go_sem, Nat.reduceAdd, Nat.reduceSub, reduceIte, reduceCtorEq, bM, List.length_map, e1, h1, h2]
 ·have e1 : decide ((l.length : Int) > 8) = true := decide_eq_true (by omega)
  rw [decide_eq_false h8, Bool.false_and]
  simp -implicitDefEqProofs (disch := (refine ab ?_; first | assumption | omega | (simp [go_sem] <;> omega) | with_unfolding_all rfl | decide)) only [go_sem, Nat.reduceAdd, Nat.reduceSub, reduceIte, reduceCtorEq, bM, List.length_map, e1]
end Go.Proofs.YtibchilpaaiecaaGreatDoor.L
/- The document's ownerships: right, put, the same; its labels and flags. -/
set_option linter.all false
set_option maxRecDepth 100000
namespace Go.Proofs.YtibchilpaaiecaaGreatDoor.L
open Go.Proofs.YtibchilpaaiecaaGreatDoor.M Go.Proofs.YtibchilpaaiecaaGreatDoor.F Go.Proofs
theorem Ek {a b : List (List UInt8)} {h : AH} (hl : a.length = b.length) (hs : a.length ≤ 1000000000) : ∀ (d i : Nat), d + i = a.length →
  (decide (a.drop i = b.drop i) = true ∧ den T (.loop cg) (dc (.sl .sh (a.map encT)) (.sl .sh (b.map encT)) (.int .i64 a.length) (.int .i64 i)) h = some (.exit 0, km, h)) ∨
  (decide (a.drop i = b.drop i) = false ∧ ∃ σ, den T (.loop cg) (dc (.sl .sh (a.map encT)) (.sl .sh (b.map encT)) (.int .i64 a.length) (.int .i64 i)) h = some (.ret, σ, h) ∧ σ.getD 4 aa = .bool false) := by
 intro d
 induction d with
 | zero =>
  intro i hd
  have hd' : decide ((i : Int) < a.length) = false := decide_eq_false (by omega)
  refine .inl ⟨by rw [List.drop_eq_nil_of_le (by omega), List.drop_eq_nil_of_le (by omega)]; rfl, ?_⟩
  rw [ae]
  simp -implicitDefEqProofs (disch := (refine ab ?_; first | assumption | omega | (simp [go_sem] <;> omega) | with_unfolding_all rfl | decide)) only [go_sem, Nat.reduceAdd, Nat.reduceSub, reduceIte, reduceCtorEq, hd']
 | succ d ih =>
  intro i hd
  have hia : i < a.length := by omega
  have hib : i < b.length := by omega
  have hd' : decide ((i : Int) < a.length) = true := decide_eq_true (by omega)
  have ga : (a.map encT)[(i : Int).toNat]? = some (encT a[i]) := by simp [hia]
  have gb : (b.map encT)[(i : Int).toNat]? = some (encT b[i]) := by simp [hib]
  have e7 := incP (n := i) (by omega)
  have ih' := ih (i + 1) (by omega)
  have hdr := mW hia hib
  generalize a[i] = x at *
  generalize b[i] = y at *
  rw [hdr]
  simp only [encT] at ga gb
  by_cases hxy : x = y
  ·have hx : decide (x = y) = true := decide_eq_true hxy
   have hq : (x == y) = true := by simp [hxy]
   have hstep : den T (.loop cg) (dc (.sl .sh (a.map encT)) (.sl .sh (b.map encT)) (.int .i64 a.length) (.int .i64 i)) h = den T (.loop cg) (dc (.sl .sh (a.map encT)) (.sl .sh (b.map encT)) (.int .i64 a.length) (.int .i64 (i + 1 : Nat))) h := by
    rw [ae]
    simp (maxSteps := 2000000) -implicitDefEqProofs (disch := (refine ab ?_; first | assumption | omega | (simp [go_sem] <;> omega) | with_unfolding_all rfl | decide)) only [go_sem, Nat.reduceAdd, Nat.reduceSub, reduceIte, reduceCtorEq, hd', ga, gb, hq, Bool.not_true, Bool.not_false, e7]
    try rfl
   rw [hstep, hx, Bool.true_and]
   exact ih'
  ·have hx : decide (x = y) = false := decide_eq_false hxy
   have hq : (x == y) = false := by simp [hxy]
   refine .inr ⟨by rw [hx, Bool.false_and], ?_⟩
   rw [ae]
   simp (maxSteps := 2000000) -implicitDefEqProofs (disch := (refine ab ?_; first | assumption | omega | (simp [go_sem] <;> omega) | with_unfolding_all rfl | decide)) only [go_sem, Nat.reduceAdd, Nat.reduceSub, reduceIte, reduceCtorEq, hd', ga, gb, hq, Bool.not_true, Bool.not_false]
   exact ⟨_, rfl, rfl⟩
theorem Cc {a b : List (List UInt8)} {h : AH} (ha : a.length ≤ 1000000000) : run T 25 [.sl .sh (a.map encT), .sl .sh (b.map encT)] h = some (.bool (decide (a = b)), h) := by
 rw [af T_25]
 by_cases hl : a.length = b.length
 ·have hq : ((a.length : Int) != (b.length : Int)) = false := by simp [hl]
  rcases Ek (h := h) hl ha a.length 0 (by omega) with ⟨h1, h2⟩ | ⟨h1, σ, h2, h3⟩
  ·simp only [show ((0 : Nat) : Int) = 0 from rfl, List.drop_zero] at h1 h2
   simp (maxSteps := 2000000) -implicitDefEqProofs (disch := (refine ab ?_; first | assumption | omega | (simp [go_sem] <;> omega) | with_unfolding_all rfl | decide)) only [go_sem, Nat.reduceAdd, Nat.reduceSub, reduceIte, reduceCtorEq, bU, List.length_map, hq, h2, h1]
  ·simp only [show ((0 : Nat) : Int) = 0 from rfl, List.drop_zero] at h1 h2
   simp (maxSteps := 2000000) -implicitDefEqProofs (disch := (refine ab ?_; first | assumption | omega | (simp [go_sem] <;> omega) | with_unfolding_all rfl | decide)) only [go_sem, Nat.reduceAdd, Nat.reduceSub, reduceIte, reduceCtorEq, bU, List.length_map, hq, h2, h1, h3]
 ·have hq : ((a.length : Int) != (b.length : Int)) = true := by simp; omega
  have hne : decide (a = b) = false := decide_eq_false fun e => hl (by rw [e])
  simp (maxSteps := 2000000) -implicitDefEqProofs (disch := (refine ab ?_; first | assumption | omega | (simp [go_sem] <;> omega) | with_unfolding_all rfl | decide)) only [go_sem, Nat.reduceAdd, Nat.reduceSub, reduceIte, reduceCtorEq, bU, List.length_map, hq, hne]
theorem El {a b : List Ent} {h : AH} (hl : a.length = b.length) (hs : a.length ≤ 1000000000) : ∀ (d i : Nat), d + i = a.length →
  (decide (a.drop i = b.drop i) = true ∧ den T (.loop cd) (db (.sl .sh (a.map encE)) (.sl .sh (b.map encE)) (.int .i64 a.length) (.int .i64 i)) h = some (.exit 0, kl, h)) ∨
  (decide (a.drop i = b.drop i) = false ∧ ∃ σ, den T (.loop cd) (db (.sl .sh (a.map encE)) (.sl .sh (b.map encE)) (.int .i64 a.length) (.int .i64 i)) h = some (.ret, σ, h) ∧ σ.getD 4 aa = .bool false) := by
 intro d
 induction d with
 | zero =>
  intro i hd
  have hd' : decide ((i : Int) < a.length) = false := decide_eq_false (by omega)
  refine .inl ⟨by rw [List.drop_eq_nil_of_le (by omega), List.drop_eq_nil_of_le (by omega)]; rfl, ?_⟩
  rw [ae]
  simp -implicitDefEqProofs (disch := (refine ab ?_; first | assumption | omega | (simp [go_sem] <;> omega) | with_unfolding_all rfl | decide)) only [go_sem, Nat.reduceAdd, Nat.reduceSub, reduceIte, reduceCtorEq, hd']
 | succ d ih =>
  intro i hd
  have hia : i < a.length := by omega
  have hib : i < b.length := by omega
  have hd' : decide ((i : Int) < a.length) = true := decide_eq_true (by omega)
  have ga : (a.map encE)[(i : Int).toNat]? = some (encE a[i]) := by simp [hia]
  have gb : (b.map encE)[(i : Int).toNat]? = some (encE b[i]) := by simp [hib]
  have e7 := incN (n := i) (by omega)
  have ih' := ih (i + 1) (by omega)
  have hq := BH a[i] b[i]
  have hdr := xy hia hib
  generalize a[i] = x at *
  generalize b[i] = y at *
  rw [hdr]
  by_cases hxy : x = y
  ·have hx : decide (x = y) = true := decide_eq_true hxy
   rw [hx] at hq
   have hstep : den T (.loop cd) (db (.sl .sh (a.map encE)) (.sl .sh (b.map encE)) (.int .i64 a.length) (.int .i64 i)) h = den T (.loop cd) (db (.sl .sh (a.map encE)) (.sl .sh (b.map encE)) (.int .i64 a.length) (.int .i64 (i + 1 : Nat))) h := by
    simp only [encE] at ga gb hq
    rw [ae]
    simp (maxSteps := 2000000) -implicitDefEqProofs (disch := (refine ab ?_; first | assumption | omega | (simp [go_sem] <;> omega) | with_unfolding_all rfl | decide)) only [go_sem, Nat.reduceAdd, Nat.reduceSub, reduceIte, reduceCtorEq, hd', ga, gb, hq, e7]
    try rfl
   rw [hstep, hx, Bool.true_and]
   exact ih'
  ·have hx : decide (x = y) = false := decide_eq_false hxy
   rw [hx] at hq
   refine .inr ⟨by rw [hx, Bool.false_and], ?_⟩
   simp only [encE] at ga gb hq
   rw [ae]
   simp (maxSteps := 2000000) -implicitDefEqProofs (disch := (refine ab ?_; first | assumption | omega | (simp [go_sem] <;> omega) | with_unfolding_all rfl | decide)) only [go_sem, Nat.reduceAdd, Nat.reduceSub, reduceIte, reduceCtorEq, hd', ga, gb, hq]
   exact ⟨_, rfl, rfl⟩
theorem wg {a b : List Ent} {h : AH} (ha : a.length ≤ 1000000000) : run T 24 [.sl .sh (a.map encE), .sl .sh (b.map encE)] h = some (.bool (decide (a = b)), h) := by
 rw [af T_24]
 by_cases hl : a.length = b.length
 ·have hq : ((a.length : Int) != (b.length : Int)) = false := by simp [hl]
  rcases El (h := h) hl ha a.length 0 (by omega) with ⟨h1, h2⟩ | ⟨h1, σ, h2, h3⟩
  ·simp only [show ((0 : Nat) : Int) = 0 from rfl, List.drop_zero] at h1 h2
   simp (maxSteps := 2000000) -implicitDefEqProofs (disch := (refine ab ?_; first | assumption | omega | (simp [go_sem] <;> omega) | with_unfolding_all rfl | decide)) only [go_sem, Nat.reduceAdd, Nat.reduceSub, reduceIte, reduceCtorEq, bT, List.length_map, hq, h2, h1]
  ·simp only [show ((0 : Nat) : Int) = 0 from rfl, List.drop_zero] at h1 h2
   simp (maxSteps := 2000000) -implicitDefEqProofs (disch := (refine ab ?_; first | assumption | omega | (simp [go_sem] <;> omega) | with_unfolding_all rfl | decide)) only [go_sem, Nat.reduceAdd, Nat.reduceSub, reduceIte, reduceCtorEq, bT, List.length_map, hq, h2, h1, h3]
 ·have hq : ((a.length : Int) != (b.length : Int)) = true := by simp; omega
  have hne : decide (a = b) = false := decide_eq_false fun e => hl (by rw [e])
  simp (maxSteps := 2000000) -implicitDefEqProofs (disch := (refine ab ?_; first | assumption | omega | (simp [go_sem] <;> omega) | with_unfolding_all rfl | decide)) only [go_sem, Nat.reduceAdd, Nat.reduceSub, reduceIte, reduceCtorEq, bT, List.length_map, hq, hne]
def rigS : Option (List UInt8) → List (List UInt8) → Bool
 | _, [] => true
 | p, c :: l => rigC c && ((match p with | none => true | some q => decide (comC q c < 0)) && rigS (some c) l)
def prvS (l : List (List UInt8)) (i : Nat) : Option (List UInt8) := if i = 0 then none else l[i - 1]?
theorem Em {l : List (List UInt8)} (hl : ∀ s ∈ l, s.length ≤ 1000000000) (h8 : l.length ≤ 1000000) : ∀ (d i : Nat) (h : AH), d + i = l.length → (∀ p, prvS l i = some p → rigC p = true) →
  (rigS (prvS l i) (l.drop i) = true ∧ ∃ js, den T (.loop aU) (bw (.sl .sh (l.map encT)) (.sl .sh (l.map encT)) (.int .i64 l.length) (.int .i64 i)) h = some (.exit 0, jZ (.sl .sh (l.map encT)), h ++ js)) ∨
  (rigS (prvS l i) (l.drop i) = false ∧ ∃ σ js, den T (.loop aU) (bw (.sl .sh (l.map encT)) (.sl .sh (l.map encT)) (.int .i64 l.length) (.int .i64 i)) h = some (.ret, σ, h ++ js) ∧ σ.getD 2 aa = .bool false) := by
 intro d
 induction d with
 | zero =>
  intro i h hd _
  have hd' : decide ((i : Int) < l.length) = false := decide_eq_false (by omega)
  refine .inl ⟨by rw [List.drop_eq_nil_of_le (by omega)]; rfl, [], ?_⟩
  rw [List.append_nil]
  rw [ae]
  simp -implicitDefEqProofs (disch := (refine ab ?_; first | assumption | omega | (simp [go_sem] <;> omega) | with_unfolding_all rfl | decide)) only [go_sem, Nat.reduceAdd, Nat.reduceSub, reduceIte, reduceCtorEq, hd']
 | succ d ih =>
  intro i h hd hpv
  have hib : i < l.length := by omega
  have hd' : decide ((i : Int) < l.length) = true := decide_eq_true (by omega)
  have hge : (l.map encT)[(i : Int).toNat]? = some (encT l[i]) := by simp [hib]
  have hdr : l.drop i = l[i] :: l.drop (i + 1) := List.drop_eq_getElem_cons hib
  have hpr : prvS l (i + 1) = some l[i] := by simp [prvS, hib]
  have hcl := hl l[i] (by simp)
  have ih' := ih (i + 1) (h ++ [.cells [.sl .sh ((parC l[i]).1.map encI), .int .i64 (parC l[i]).2.1]]) (by omega)
  rw [hpr] at ih'
  have hprv : i ≠ 0 → ∃ p : List UInt8, (l.map encT)[((i : Int) - 1).toNat]? = some (encT p) ∧ prvS l i = some p ∧ p.length ≤ 1000000000 := by
   intro h0
   have hj : i - 1 < l.length := by omega
   refine ⟨l[i - 1], ?_, ?_, hl _ (by simp)⟩
   ·rw [show ((i : Int) - 1).toNat = i - 1 by omega]; simp [hj]
   ·simp [prvS, h0, hj]
  rw [hdr]
  generalize l[i] = c at *
  have h1 := kZ hcl
  have hrc : (parC c).2.2 = rigC c := rfl
  rw [hrc] at h1
  simp only [encT] at hge
  simp only [rigS]
  generalize hB : Bx.cells [.sl .sh ((parC c).1.map encI), .int .i64 (parC c).2.1] = B at *
  have hBd : ∀ (X : AV), [AV.sl Md.sh (List.map encI (parC c).1), AV.int IntKind.i64 (parC c).2.1] = [AV.sl Md.sh (List.map encI (parC c).1), AV.int IntKind.i64 (parC c).2.1] := fun _ => rfl
  cases hc : rigC c with
  | false =>
   rw [hc] at h1
   right
   refine ⟨by rw [Bool.false_and], ?_⟩
   rw [ae]
   simp (maxSteps := 2000000) -implicitDefEqProofs (disch := (refine ab ?_; first | assumption | omega | (simp [go_sem] <;> omega) | with_unfolding_all rfl | decide)) only [go_sem, Nat.reduceAdd, Nat.reduceSub, reduceIte, reduceCtorEq, hd', hge, h1, Bool.not_false]
   exact ⟨_, _, ⟨rfl, rfl⟩, rfl⟩
  | true =>
   rw [hc] at h1
   have ih'' := ih' (fun p hp => by cases hp; exact hc)
   simp only [Bool.true_and]
   have e7 := incP (n := i) (by omega)
   by_cases h0 : i = 0
   ·have e4 : decide ((i : Int) > 0) = false := decide_eq_false (by omega)
    have hp0 : prvS l i = none := by simp [prvS, h0]
    rw [hp0]
    simp only [Bool.true_and]
    have hstep : den T (.loop aU) (bw (.sl .sh (l.map encT)) (.sl .sh (l.map encT)) (.int .i64 l.length) (.int .i64 i)) h = den T (.loop aU) (bw (.sl .sh (l.map encT)) (.sl .sh (l.map encT)) (.int .i64 l.length) (.int .i64 (i + 1 : Nat))) (h ++ [B]) := by
     rw [← hB]
     rw [ae]
     simp (maxSteps := 2000000) -implicitDefEqProofs (disch := (refine ab ?_; first | assumption | omega | (simp [go_sem] <;> omega) | with_unfolding_all rfl | decide)) only [go_sem, Nat.reduceAdd, Nat.reduceSub, reduceIte, reduceCtorEq, hd', hge, h1, Bool.not_true, e4, e7, ew, ey]
     rfl
    rw [hstep]
    rcases ih'' with ⟨k1, js, k2⟩ | ⟨k1, σ, js, k2, k3⟩
    ·exact .inl ⟨k1, B :: js, by rw [k2, List.append_assoc]; rfl⟩
    ·exact .inr ⟨k1, σ, B :: js, by rw [k2, List.append_assoc]; rfl, k3⟩
   ·have e4 : decide ((i : Int) > 0) = true := decide_eq_true (by omega)
    obtain ⟨q, hq1, hq2, hq3⟩ := hprv h0
    have hrq := hpv _ hq2
    have ha := xP (h := []) hq3 hcl hrq hc
    have hcc := xQ hrq hc
    have e5 : IntKind.i64.wrap ((i : Int) - 1) = (i : Int) - 1 := w64 (by omega) (by omega)
    rw [hq2]
    simp only
    simp only [encT] at hq1
    cases hco : decide (comC q c < 0) with
    | true =>
     rw [hco, Bool.not_true] at hcc
     simp only [Bool.true_and]
     have hstep : den T (.loop aU) (bw (.sl .sh (l.map encT)) (.sl .sh (l.map encT)) (.int .i64 l.length) (.int .i64 i)) h = den T (.loop aU) (bw (.sl .sh (l.map encT)) (.sl .sh (l.map encT)) (.int .i64 l.length) (.int .i64 (i + 1 : Nat))) (h ++ [B]) := by
      rw [← hB]
      rw [ae]
      simp (maxSteps := 2000000) -implicitDefEqProofs (disch := (refine ab ?_; first | assumption | omega | (simp [go_sem] <;> omega) | with_unfolding_all rfl | decide)) only [go_sem, Nat.reduceAdd, Nat.reduceSub, reduceIte, reduceCtorEq, hd', hge, h1, Bool.not_true, e4, e5, hq1, ha, hcc, e7, ew, ey]
      rfl
     rw [hstep]
     rcases ih'' with ⟨k1, js, k2⟩ | ⟨k1, σ, js, k2, k3⟩
     ·exact .inl ⟨k1, B :: js, by rw [k2, List.append_assoc]; rfl⟩
     ·exact .inr ⟨k1, σ, B :: js, by rw [k2, List.append_assoc]; rfl, k3⟩
    | false =>
     rw [hco, Bool.not_false] at hcc
     right
     refine ⟨by rw [Bool.false_and], ?_⟩
     rw [ae]
     simp (maxSteps := 2000000) -implicitDefEqProofs (disch := (refine ab ?_; first | assumption | omega | (simp [go_sem] <;> omega) | with_unfolding_all rfl | decide)) only [go_sem, Nat.reduceAdd, Nat.reduceSub, reduceIte, reduceCtorEq, hd', hge, h1, Bool.not_true, e4, e5, hq1, ha, hcc, ew, ey]
     exact ⟨_, _, ⟨rfl, rfl⟩, rfl⟩
theorem Cd {l : List (List UInt8)} (hl : ∀ s ∈ l, s.length ≤ 1000000000) (h8 : l.length ≤ 1000000) : run T 62 [.sl .sh (l.map encT)] [] = some (.bool (rigS none l && decide (l.length ≤ 8)), []) := by
 have e1 : decide ((l.length : Int) ≤ 8) = decide (l.length ≤ 8) := by congr 1; exact propext (by omega)
 rw [af T_62]
 have hlp := Em hl h8 l.length 0 [] (by omega) (fun p hp => by cases hp)
 simp only [List.drop_zero, show ((0 : Nat) : Int) = 0 from rfl, show prvS l 0 = none from rfl, List.nil_append] at hlp
 rcases hlp with ⟨h1, js, h2⟩ | ⟨h1, σ, js, h2, h3⟩
 ·rw [h1]
  simp (maxSteps := 2000000) -implicitDefEqProofs (disch := (refine ab ?_; first | assumption | omega | (simp [go_sem] <;> omega) | with_unfolding_all rfl | decide)) only [go_sem, Nat.reduceAdd, Nat.reduceSub, reduceIte, reduceCtorEq, cE, List.length_map, e1, h2, Bool.true_and]
 ·rw [h1]
  simp (maxSteps := 2000000) -implicitDefEqProofs (disch := (refine ab ?_; first | assumption | omega | (simp [go_sem] <;> omega) | with_unfolding_all rfl | decide)) only [go_sem, Nat.reduceAdd, Nat.reduceSub, reduceIte, reduceCtorEq, cE, List.length_map, e1, h2, h3, Bool.false_and]
end Go.Proofs.YtibchilpaaiecaaGreatDoor.L
/- The order of names; the document's right ownerships are the program's. -/
set_option linter.all false
set_option maxRecDepth 100000
namespace Go.Proofs.YtibchilpaaiecaaGreatDoor.L
open Go.Proofs.YtibchilpaaiecaaGreatDoor.M Go.Proofs.YtibchilpaaiecaaGreatDoor.F Go.Proofs
theorem sY (a b : Int) : cmpI a b = - cmpI b a := by
 unfold cmpI; (repeat' split) <;> omega
theorem Fw {a b : Int} : cmpI a b = 0 ↔ a = b := by
 unfold cmpI; (repeat' split) <;> constructor <;> intro h <;> omega
theorem xR (a b : Int) : -1 ≤ cmpI a b ∧ cmpI a b ≤ 1 := by
 unfold cmpI; (repeat' split) <;> omega
theorem sZ : ∀ a b : List Int, cmpL a b = - cmpL b a
 | [], [] => rfl
 | [], _ :: _ => rfl
 | _ :: _, [] => rfl
 | x :: l, y :: m => by
  have h1 := sY y x
  have ih := sZ l m
  simp only [cmpL]
  rw [h1]
  by_cases h : cmpI x y = 0
  ·rw [if_neg (by omega), if_neg (by omega)]; exact ih
  ·rw [if_pos h, if_pos (by omega)]; omega
theorem xS : ∀ a b : List Int, -1 ≤ cmpL a b ∧ cmpL a b ≤ 1
 | [], [] => by simp [cmpL]
 | [], _ :: _ => by simp [cmpL]
 | _ :: _, [] => by simp [cmpL]
 | x :: l, y :: m => by
  have h1 := xR x y
  have ih := xS l m
  simp only [cmpL]
  split <;> assumption
theorem Fx : ∀ a b : List Int, cmpL a b = 0 ↔ a = b
 | [], [] => by simp [cmpL]
 | [], _ :: _ => by simp [cmpL]
 | _ :: _, [] => by simp [cmpL]
 | x :: l, y :: m => by
  have h1 := @Fw x y
  have ih := Fx l m
  simp only [cmpL, List.cons.injEq]
  by_cases h : cmpI x y = 0
  ·rw [if_neg (by simp [h]), ih]; exact ⟨fun q => ⟨h1.1 h, q⟩, fun q => q.2⟩
  ·rw [if_pos h]; exact ⟨fun q => absurd q h, fun q => absurd (h1.2 q.1) h⟩
theorem uM : ∀ (a b : List UInt8), Op.bytesLess a b = true → Op.bytesLess b a = false
 | [], [], h => by simp [Op.bytesLess] at h
 | [], _ :: _, _ => rfl
 | _ :: _, [], h => by simp [Op.bytesLess] at h
 | x :: a, y :: b, h => by
  simp only [Op.bytesLess, Bool.or_eq_true, Bool.and_eq_true, decide_eq_true_eq, beq_iff_eq] at h
  simp only [Op.bytesLess, Bool.or_eq_false_iff, decide_eq_false_iff_not, Bool.and_eq_false_iff]
  rcases h with h | ⟨rfl, h⟩
  ·have h1 : ¬ y < x := fun z => by
    have a1 := UInt8.lt_iff_toNat_lt.1 h; have a2 := UInt8.lt_iff_toNat_lt.1 z; omega
   have h2 : ¬ y = x := fun z => by subst z; exact h1 h
   exact ⟨h1, .inl (by simpa using h2)⟩
  ·have h1 : ¬ x < x := fun z => by have a1 := UInt8.lt_iff_toNat_lt.1 z; omega
   exact ⟨h1, .inr (uM a b h)⟩
theorem Ce {a b : List UInt8} (h : cmpS a b < 0) : ¬ cmpS b a < 0 := by
 unfold cmpS at h ⊢
 by_cases h1 : Op.bytesLess a b = true
 ·rw [if_neg (by rw [uM a b h1]; simp)]; split <;> omega
 ·rw [if_neg h1] at h; split at h <;> omega
theorem Cf {a b : List UInt8} (h : comC a b < 0) : ¬ comC b a < 0 := by
 have q1 := sZ (parC a).1 (parC b).1
 have q2 := sY (parC a).2.1 (parC b).2.1
 unfold comC at h ⊢
 cases ra : rigC a <;> cases rb : rigC b <;> simp only [ra, rb, Bool.true_eq_false, Bool.false_eq_true, and_self, and_true, and_false, false_and, if_true, if_false, reduceIte, ne_eq, ite_not] at h ⊢
 ·exact Ce h
 ·omega
 ·omega
 ·split at h <;> split <;> omega
theorem xU (a b : List UInt8) (h : ltC a b = true) : ltC b a = false := decide_eq_false (Cf (of_decide_eq_true h))
theorem Ic (a : List UInt8) : ltC a a = false := by
 cases h : ltC a a with
 | false => rfl
 | true => have := xU a a h; rw [h] at this; exact this
theorem Ie (a b : List UInt8) (hab : a ≠ b) (ra : rigC a = true) (rb : rigC b = true) (h : ltC b a = false) : ltC a b = true := by
 have h1 := of_decide_eq_false h
 refine decide_eq_true ?_
 have q1 := sZ (parC a).1 (parC b).1
 have q2 := sY (parC a).2.1 (parC b).2.1
 have q3 := Fx (parC a).1 (parC b).1
 have q4 := Fw (a := (parC a).2.1) (b := (parC b).2.1)
 have q5 := xS (parC a).1 (parC b).1
 have q6 := xR (parC a).2.1 (parC b).2.1
 unfold comC at h1 ⊢
 simp only [ra, rb, Bool.true_eq_false, and_self, if_false, reduceIte, ne_eq, ite_not] at h1 ⊢
 have hne : ¬ (cmpL (parC a).1 (parC b).1 = 0 ∧ cmpI (parC a).2.1 (parC b).2.1 = 0) := fun ⟨z1, z2⟩ => by
  have p1 := q3.1 z1
  have p2 := q4.1 z2
  have t1 := (oF (s := a) ra).2
  have t2 := (oF (s := b) rb).2
  rw [p1, p2] at t1
  exact hab (t1.symm.trans t2)
 split at h1 <;> split <;> omega
theorem xV : ∀ (l : List (List UInt8)) (p : Option (List UInt8)), rigS p l = true ↔ (∀ x ∈ l, rigC x = true) ∧ (match p, l with | some q, c :: _ => ltC q c = true | _, _ => True) ∧ Rise ltC l
 | [], p => by cases p <;> simp [rigS, Rise]
 | [c], p => by cases p <;> simp [rigS, Rise, ltC]
 | c :: y :: r, p => by
  have ih := xV (y :: r) (some c)
  simp only [rigS] at ih ⊢
  rw [Bool.and_eq_true, Bool.and_eq_true, ih]
  cases p with
  | none =>
   simp only [List.mem_cons, Rise, true_and]
   constructor
   ·rintro ⟨h1, h2, h3, h4⟩
    exact ⟨fun x hx => by rcases hx with rfl | hx; exact h1; exact h2 x hx, h3, h4⟩
   ·rintro ⟨h1, h2, h3⟩
    exact ⟨h1 c (.inl rfl), fun x hx => h1 x (.inr hx), h2, h3⟩
  | some q =>
   simp only [List.mem_cons, Rise]
   constructor
   ·rintro ⟨h1, h0, h2, h3, h4⟩
    exact ⟨fun x hx => by rcases hx with rfl | hx; exact h1; exact h2 x hx, h0, h3, h4⟩
   ·rintro ⟨h1, h0, h2, h3⟩
    exact ⟨h1 c (.inl rfl), h0, fun x hx => h1 x (.inr hx), h2, h3⟩
theorem uN (l : List (List UInt8)) : (rigS none l && decide (l.length ≤ 8)) = rigO l := by
 have h1 := Bp ltC (p := rigC) xU Ic Ie l
 have h2 := xV l none
 have h3 : (rigS none l = true) ↔ srtC l = l := by
  unfold srtC
  rw [h1, h2]
  simp
 unfold rigO
 rw [Bool.and_comm]
 congr 1
 by_cases h : srtC l = l
 ·rw [decide_eq_true h, h3.2 h]
 ·rw [decide_eq_false h]
  cases hr : rigS none l with
  | false => rfl
  | true => exact absurd (h3.1 hr) h
end Go.Proofs.YtibchilpaaiecaaGreatDoor.L
