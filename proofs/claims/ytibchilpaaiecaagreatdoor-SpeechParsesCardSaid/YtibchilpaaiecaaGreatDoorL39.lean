/- Categories' lengths; labels: what is read is what was written; and canonical reading. -/
import Derived.Test.YtibchilpaaiecaaGreatDoorL25
import Derived.Test.YtibchilpaaiecaaGreatDoorL22
import Derived.Lib.AtoiAllCases
set_option linter.all false
set_option maxRecDepth 100000
namespace Go.Proofs.YtibchilpaaiecaaGreatDoor.L
open Go.Proofs.YtibchilpaaiecaaGreatDoor.M Go.Proofs.YtibchilpaaiecaaGreatDoor.F Go.Proofs
section
theorem kM : ∀ (k u : Nat), u < 10 ^ (k + 1) → (Lib.decDigits u).length ≤ k + 1
 | 0, u, h => by rw [Lib.decDigits, dif_pos (by simpa using h)]; simp
 | k + 1, u, h => by
  rw [Lib.decDigits]
  split
  ·simp
  ·have h2 : u / 10 < 10 ^ (k + 1) := by
    refine Nat.div_lt_of_lt_mul ?_
    rw [Nat.pow_succ] at h; omega
   have := kM k (u / 10) h2
   simp; omega
theorem xm {s : List UInt8} {m : Int} (hm : m ≤ 1048576) (h : (numC s m).2 = true) : s.length ≤ 7 ∧ 0 ≤ (numC s m).1 ∧ (numC s m).1 ≤ m := by
 unfold numC at h ⊢
 split at h
 ·rename_i v hv
  simp only [decide_eq_true_eq] at h
  obtain ⟨h0, h1, h2⟩ := h
  simp only
  refine ⟨?_, h0, h1⟩
  rw [← h2]
  unfold Lib.itoa
  rw [if_neg (by omega)]
  exact kM 6 v.toNat (by omega)
 ·cases h
 ·cases h
theorem uv : ∀ (l : List (List UInt8)) (p q : List Int), iv p l = some q → q.length = p.length + l.length ∧ ∀ w ∈ l, w.length ≤ 7
 | [], p, q, h => by simp only [iv, Option.some.injEq] at h; subst h; simp
 | w :: l, p, q, h => by
  simp only [iv] at h
  split at h
  ·rename_i hc
   obtain ⟨h1, h2⟩ := uv l _ q h
   refine ⟨by simp at h1 ⊢; omega, fun x hx => ?_⟩
   rcases List.mem_cons.1 hx with rfl | hx
   ·exact (xm (by omega) hc.1).1
   ·exact h2 x hx
  ·cases h
theorem kW (c : UInt8) : ∀ s : List UInt8, ((au c s).map fun q => q.1.length + 1).sum = s.length + 1
 | [] => by simp [au]
 | b :: s => by
  have ih := kW c s
  obtain ⟨x, xs, hx⟩ := fF c s
  simp only [au]
  split
  ·simp; omega
  ·rw [hx] at ih ⊢
   simp at ih ⊢; omega
theorem Fl : ∀ (l : List (List UInt8 × List UInt8)), (∀ q ∈ l, q.1.length ≤ 7) → (l.map fun q => q.1.length + 1).sum ≤ 8 * l.length
 | [], _ => by simp
 | a :: l, h => by
  have := Fl l fun q hq => h q (List.mem_cons_of_mem _ hq)
  have h0 := h a (by simp)
  simp; omega
theorem DI {c : UInt8} {s : List UInt8} (h : (cutC c s).2.2 = true) : s.length = (cutC c s).1.length + 1 + (cutC c s).2.1.length := by
 have := sF s c
 unfold cutC at h ⊢
 split
 ·simp; omega
 ·rename_i hn; rw [if_neg hn] at h; cases h
theorem sL {s : List UInt8} (h : rigC s = true) : s.length ≤ 60 := by
 unfold rigC parC at h
 split at h
 ·rename_i hc
  have h1 := DI hc.1
  have h2 := (xm (by omega) hc.2).1
  split at h
  ·rename_i hw; rw [hw] at h1; simp at h1; omega
  ·split at h
   ·rename_i q hq
    obtain ⟨k1, k2⟩ := uv _ _ _ hq
    have k3 := pO _ _ _ hq (by simp)
    have k4 := kW 46 (cutC 47 s).1
    have k5 := Fl (au 46 (cutC 47 s).1) fun q hq => k2 _ (List.mem_map.2 ⟨q, hq, rfl⟩)
    simp at k1
    omega
   ·cases h
 ·cases h
theorem mU : ∀ (l : List Ent) (p : Option (List UInt8)), rigE p l = true → ∀ e ∈ l, e.1.length ≤ 60 ∧ 0 ≤ e.2 ∧ e.2 < 4 ∧ e.2 ≠ 1
 | [], p, h, e, he => by cases he
 | a :: l, p, h, e, he => by
  simp only [rigE, Bool.and_eq_true, decide_eq_true_eq, Bool.not_eq_true', beq_eq_false_iff_ne] at h
  obtain ⟨⟨⟨⟨⟨h1, h2⟩, h3⟩, h4⟩, h5⟩, h6⟩ := h
  rcases List.mem_cons.1 he with rfl | he
  ·exact ⟨sL h1, h3, h4, h2⟩
  ·exact mU l _ h6 e he
end
section
theorem nH {h l : AH} {k : Nat} : (h ++ l)[h.length + k]? = l[k]? := by rw [List.getElem?_append_right (by omega)]; congr 1; omega
theorem ew {h l : AH} : (h ++ l)[h.length]? = l[0]? := by rw [List.getElem?_append_right (by omega)]; congr 1; omega
theorem nI {h l : AH} {k : Nat} {x : Bx} : (h ++ l).set (h.length + k) x = h ++ l.set k x := by rw [List.set_append_right _ _ (by omega)]; congr 2; omega
theorem ey {h l : AH} {x : Bx} : (h ++ l).set h.length x = h ++ l.set 0 x := by rw [List.set_append_right _ _ (by omega)]; congr 2; omega
end
section
end
end Go.Proofs.YtibchilpaaiecaaGreatDoor.L
/- Paths: which are right, parents, children, order; comparisons. -/
set_option linter.all false
set_option maxRecDepth 100000
namespace Go.Proofs.YtibchilpaaiecaaGreatDoor.L
open Go.Proofs.YtibchilpaaiecaaGreatDoor.M Go.Proofs.YtibchilpaaiecaaGreatDoor.F Go.Proofs
theorem incP {n : Nat} (h : n ≤ 9223372036854775806) : IntKind.i64.wrap ((n : Int) + 1) = ((n + 1 : Nat) : Int) := by rw [w64 (by omega) (by omega)]; rfl
theorem Fm : ∀ (l : List Int), decZ (l.map encI) = some l
 | [] => rfl
 | a :: l => by
  show (decZ (l.map encI)).map (a :: ·) = _
  rw [Fm l]; rfl
theorem Bu {l : List Int} {h : AH} (hl : l.length ≤ 1000000) (hr : inI l = true) : run T 105 [.sl .sh (l.map encI)] h = some (.str ⟨(dotT l).toArray⟩, h) := by
 rw [eG K0]
 unfold qV
 simp only [Fm]
 rw [if_pos ⟨hl, hr⟩]
def okN (n : Int) : Bool := decide (n ≥ 0) && decide (n ≤ 1048576)
theorem mc {n : Int} : okN n = true ↔ 0 ≤ n ∧ n ≤ 1048576 := by simp [okN]
theorem Hx {n : Int} {h : AH} : run T 111 [.int .i64 n] h = some (.bool (okN n), h) := by
 rw [af K3]
 unfold okN
 cases e1 : decide (n ≥ 0)
 ·simp -implicitDefEqProofs (disch := (refine ab ?_; first | assumption | omega | (simp [go_sem] <;> omega) | with_unfolding_all rfl | decide)) only [go_sem, Nat.reduceAdd, Nat.reduceSub, reduceIte, reduceCtorEq, fC, e1, Bool.false_and]
 ·simp -implicitDefEqProofs (disch := (refine ab ?_; first | assumption | omega | (simp [go_sem] <;> omega) | with_unfolding_all rfl | decide)) only [go_sem, Nat.reduceAdd, Nat.reduceSub, reduceIte, reduceCtorEq, fC, e1, Bool.true_and]
theorem Hy {n : Int} {h : AH} : run T 110 [.int .i64 n] h = some (.bool (!okN n), h) := by
 have h1 := Hx (n := n) (h := [])
 rw [af K2]
 simp -implicitDefEqProofs (disch := (refine ab ?_; first | assumption | omega | (simp [go_sem] <;> omega) | with_unfolding_all rfl | decide)) only [go_sem, Nat.reduceAdd, Nat.reduceSub, reduceIte, reduceCtorEq, fZ, h1]
def fnB : AV := .fn (.func 110) [] []
theorem DJ {l : List Int} {h : AH} (hl : l.length ≤ 1000000000) : ∀ (d i : Nat), d + i = l.length →
  ((l.drop i).all okN = true ∧ den T (.loop aZ) (bG (.sl .sh (l.map encI)) fnB (.int .i64 l.length) (.int .i64 i)) h = some (.exit 0, hX, h)) ∨
  ((l.drop i).all okN = false ∧ ∃ σ j, den T (.loop aZ) (bG (.sl .sh (l.map encI)) fnB (.int .i64 l.length) (.int .i64 i)) h = some (.ret, σ, h) ∧ σ.getD 4 aa = .int .i64 ((j : Nat) : Int)) := by
 intro d
 induction d with
 | zero =>
  intro i hd
  have hd' : decide ((i : Int) < l.length) = false := decide_eq_false (by omega)
  refine .inl ⟨by rw [List.drop_eq_nil_of_le (by omega)]; rfl, ?_⟩
  rw [ae]
  simp -implicitDefEqProofs (disch := (refine ab ?_; first | assumption | omega | (simp [go_sem] <;> omega) | with_unfolding_all rfl | decide)) only [go_sem, Nat.reduceAdd, Nat.reduceSub, reduceIte, reduceCtorEq, hd', fnB]
 | succ d ih =>
  intro i hd
  have hib : i < l.length := by omega
  have hd' : decide ((i : Int) < l.length) = true := decide_eq_true (by omega)
  have hge : (l.map encI)[(i : Int).toNat]? = some (encI l[i]) := by simp [hib]
  have hdr : l.drop i = l[i] :: l.drop (i + 1) := List.drop_eq_getElem_cons hib
  have e7 := incP (n := i) (by omega)
  have ih' := ih (i + 1) (by omega)
  rw [hdr, List.all_cons]
  generalize l[i] = x at *
  have hb := Hy (n := x) (h := h)
  simp only [encI] at hge
  cases hx : okN x
  ·rw [hx] at hb
   refine .inr ⟨rfl, ?_⟩
   rw [ae]
   simp (maxSteps := 2000000) -implicitDefEqProofs (disch := (refine ab ?_; first | assumption | omega | (simp [go_sem] <;> omega) | with_unfolding_all rfl | decide)) only [go_sem, Nat.reduceAdd, Nat.reduceSub, reduceIte, reduceCtorEq, hd', hge, fnB, hb]
   exact ⟨_, i, rfl, rfl⟩
  ·rw [hx] at hb
   have hstep : den T (.loop aZ) (bG (.sl .sh (l.map encI)) fnB (.int .i64 l.length) (.int .i64 i)) h = den T (.loop aZ) (bG (.sl .sh (l.map encI)) fnB (.int .i64 l.length) (.int .i64 (i + 1 : Nat))) h := by
    rw [ae]
    simp (maxSteps := 2000000) -implicitDefEqProofs (disch := (refine ab ?_; first | assumption | omega | (simp [go_sem] <;> omega) | with_unfolding_all rfl | decide)) only [go_sem, Nat.reduceAdd, Nat.reduceSub, reduceIte, reduceCtorEq, hd', hge, fnB, hb, e7]
    try rfl
   rw [hstep, Bool.true_and]
   exact ih'
theorem Hz {l : List Int} {h : AH} (hl : l.length ≤ 1000000000) : run T 109 [.sl .sh (l.map encI), .fn (.func 110) [] []] h = some (.bool (!(l.all okN)), h) := by
 have hi : ∃ n : Int, run T 139 [.sl .sh (l.map encI), .fn (.func 110) [] []] h = some (.int .i64 n, h) ∧ decide (n ≥ 0) = !(l.all okN) := by
  rw [af Lg]
  rcases DJ (h := h) hl l.length 0 (by omega) with ⟨h1, h2⟩ | ⟨h1, σ, j, h2, h3⟩
  ·simp only [show ((0 : Nat) : Int) = 0 from rfl, List.drop_zero, fnB] at h1 h2
   refine ⟨-1, ?_, by rw [h1]; rfl⟩
   simp (maxSteps := 2000000) -implicitDefEqProofs (disch := (refine ab ?_; first | assumption | omega | (simp [go_sem] <;> omega) | with_unfolding_all rfl | decide)) only [go_sem, Nat.reduceAdd, Nat.reduceSub, reduceIte, reduceCtorEq, bj, List.length_map, h2]
  ·simp only [show ((0 : Nat) : Int) = 0 from rfl, List.drop_zero, fnB] at h1 h2
   refine ⟨j, ?_, by rw [h1]; exact decide_eq_true (by omega)⟩
   simp (maxSteps := 2000000) -implicitDefEqProofs (disch := (refine ab ?_; first | assumption | omega | (simp [go_sem] <;> omega) | with_unfolding_all rfl | decide)) only [go_sem, Nat.reduceAdd, Nat.reduceSub, reduceIte, reduceCtorEq, bj, List.length_map, h2, h3]
 obtain ⟨n, h1, h2⟩ := hi
 rw [af K1]
 simp (maxSteps := 2000000) -implicitDefEqProofs (disch := (refine ab ?_; first | assumption | omega | (simp [go_sem] <;> omega) | with_unfolding_all rfl | decide)) only [go_sem, Nat.reduceAdd, Nat.reduceSub, reduceIte, reduceCtorEq, bC, h1, h2]
def rigP (l : List Int) : Bool := decide (l.length ≤ 6) && l.all okN
theorem sM {l : List Int} {h : AH} : run T 82 [.sl .sh (l.map encI)] h = some (.bool (rigP l), h) := by
 have e1 : decide ((l.length : Int) ≤ 6) = decide (l.length ≤ 6) := by congr 1; exact propext (by omega)
 rw [af T_82]
 unfold rigP
 by_cases h6 : l.length ≤ 6
 ·have hc := fun h => Hz (l := l) (h := h) (by omega)
  rw [decide_eq_true h6] at e1
  simp (maxSteps := 2000000) -implicitDefEqProofs (disch := (refine ab ?_; first | assumption | omega | (simp [go_sem] <;> omega) | with_unfolding_all rfl | decide)) only [go_sem, Nat.reduceAdd, Nat.reduceSub, reduceIte, reduceCtorEq, gB, List.length_map, e1, hc, Bool.not_not, h6, decide_true, Bool.true_and]
 ·rw [decide_eq_false h6] at e1
  simp (maxSteps := 2000000) -implicitDefEqProofs (disch := (refine ab ?_; first | assumption | omega | (simp [go_sem] <;> omega) | with_unfolding_all rfl | decide)) only [go_sem, Nat.reduceAdd, Nat.reduceSub, reduceIte, reduceCtorEq, gB, List.length_map, e1, decide_eq_false h6, Bool.false_and]
theorem fG {l : List Int} (h : rigP l = true) : l.length ≤ 6 ∧ ∀ x ∈ l, 0 ≤ x ∧ x ≤ 1048576 := by
 simp only [rigP, Bool.and_eq_true, decide_eq_true_eq, List.all_eq_true] at h
 exact ⟨h.1, fun x hx => mc.1 (h.2 x hx)⟩
theorem sN {l : List Int} (h : rigP l = true) : inI l = true := by
 unfold inI
 rw [List.all_eq_true]
 intro x hx
 have := (fG h).2 x hx
 simp; omega
theorem mW {α : Type} [DecidableEq α] {a b : List α} {i : Nat} (ha : i < a.length) (hb : i < b.length) : decide (a.drop i = b.drop i) = (decide (a[i] = b[i]) && decide (a.drop (i + 1) = b.drop (i + 1))) := by
 have h : (a.drop i = b.drop i) ↔ (a[i] = b[i] ∧ a.drop (i + 1) = b.drop (i + 1)) := by
  rw [List.drop_eq_getElem_cons ha, List.drop_eq_getElem_cons hb, List.cons.injEq]
 rw [decide_eq_decide.2 h, Bool.decide_and]
theorem Bv {a b : List Int} {h : AH} (hl : a.length = b.length) (hs : a.length ≤ 1000000000) : ∀ (d i : Nat), d + i = a.length →
  (decide (a.drop i = b.drop i) = true ∧ den T (.loop bE) (cq (.sl .sh (a.map encI)) (.sl .sh (b.map encI)) (.int .i64 a.length) (.int .i64 i)) h = some (.exit 0, iY, h)) ∨
  (decide (a.drop i = b.drop i) = false ∧ ∃ σ, den T (.loop bE) (cq (.sl .sh (a.map encI)) (.sl .sh (b.map encI)) (.int .i64 a.length) (.int .i64 i)) h = some (.ret, σ, h) ∧ σ.getD 4 aa = .bool false) := by
 intro d
 induction d with
 | zero =>
  intro i hd
  have hd' : decide ((i : Int) < a.length) = false := decide_eq_false (by omega)
  refine .inl ⟨by rw [List.drop_eq_nil_of_le (by omega), List.drop_eq_nil_of_le (by omega)]; rfl, ?_⟩
  rw [ae]
  simp -implicitDefEqProofs (disch := (refine ab ?_; first | assumption | omega | (simp [go_sem] <;> omega) | with_unfolding_all rfl | decide)) only [go_sem, Nat.reduceAdd, Nat.reduceSub, reduceIte, reduceCtorEq, hd']
 | succ d ih =>
  intro i hd
  have hia : i < a.length := by omega
  have hib : i < b.length := by omega
  have hd' : decide ((i : Int) < a.length) = true := decide_eq_true (by omega)
  have ga : (a.map encI)[(i : Int).toNat]? = some (encI a[i]) := by simp [hia]
  have gb : (b.map encI)[(i : Int).toNat]? = some (encI b[i]) := by simp [hib]
  have e7 := incP (n := i) (by omega)
  have ih' := ih (i + 1) (by omega)
  have hdr := mW hia hib
  generalize a[i] = x at *
  generalize b[i] = y at *
  rw [hdr]
  simp only [encI] at ga gb
  by_cases hxy : x = y
  ·have hx : decide (x = y) = true := decide_eq_true hxy
   have hq : (x != y) = false := by simp [hxy]
   have hstep : den T (.loop bE) (cq (.sl .sh (a.map encI)) (.sl .sh (b.map encI)) (.int .i64 a.length) (.int .i64 i)) h = den T (.loop bE) (cq (.sl .sh (a.map encI)) (.sl .sh (b.map encI)) (.int .i64 a.length) (.int .i64 (i + 1 : Nat))) h := by
    rw [ae]
    simp (maxSteps := 2000000) -implicitDefEqProofs (disch := (refine ab ?_; first | assumption | omega | (simp [go_sem] <;> omega) | with_unfolding_all rfl | decide)) only [go_sem, Nat.reduceAdd, Nat.reduceSub, reduceIte, reduceCtorEq, hd', ga, gb, hq, e7]
    try rfl
   rw [hstep, hx, Bool.true_and]
   exact ih'
  ·have hx : decide (x = y) = false := decide_eq_false hxy
   have hq : (x != y) = true := by simp [hxy]
   refine .inr ⟨by rw [hx, Bool.false_and], ?_⟩
   rw [ae]
   simp (maxSteps := 2000000) -implicitDefEqProofs (disch := (refine ab ?_; first | assumption | omega | (simp [go_sem] <;> omega) | with_unfolding_all rfl | decide)) only [go_sem, Nat.reduceAdd, Nat.reduceSub, reduceIte, reduceCtorEq, hd', ga, gb, hq]
   exact ⟨_, rfl, rfl⟩
theorem xn {a b : List Int} {h : AH} (ha : a.length ≤ 1000000000) : run T 46 [.sl .sh (a.map encI), .sl .sh (b.map encI)] h = some (.bool (decide (a = b)), h) := by
 rw [af T_46]
 by_cases hl : a.length = b.length
 ·have hq : ((a.length : Int) != (b.length : Int)) = false := by simp [hl]
  rcases Bv (h := h) hl ha a.length 0 (by omega) with ⟨h1, h2⟩ | ⟨h1, σ, h2, h3⟩
  ·simp only [show ((0 : Nat) : Int) = 0 from rfl, List.drop_zero] at h1 h2
   simp (maxSteps := 2000000) -implicitDefEqProofs (disch := (refine ab ?_; first | assumption | omega | (simp [go_sem] <;> omega) | with_unfolding_all rfl | decide)) only [go_sem, Nat.reduceAdd, Nat.reduceSub, reduceIte, reduceCtorEq, bt, List.length_map, hq, h2, h1]
  ·simp only [show ((0 : Nat) : Int) = 0 from rfl, List.drop_zero] at h1 h2
   simp (maxSteps := 2000000) -implicitDefEqProofs (disch := (refine ab ?_; first | assumption | omega | (simp [go_sem] <;> omega) | with_unfolding_all rfl | decide)) only [go_sem, Nat.reduceAdd, Nat.reduceSub, reduceIte, reduceCtorEq, bt, List.length_map, hq, h2, h1, h3]
 ·have hq : ((a.length : Int) != (b.length : Int)) = true := by simp; omega
  have hne : decide (a = b) = false := decide_eq_false fun e => hl (by rw [e])
  simp (maxSteps := 2000000) -implicitDefEqProofs (disch := (refine ab ?_; first | assumption | omega | (simp [go_sem] <;> omega) | with_unfolding_all rfl | decide)) only [go_sem, Nat.reduceAdd, Nat.reduceSub, reduceIte, reduceCtorEq, bt, List.length_map, hq, hne]
theorem DK {a b : List Int} {h : AH} (hl : a.length = b.length) (hs : a.length ≤ 1000000000) : ∀ (d i : Nat), d + i = a.length →
  (decide (a.drop i = b.drop i) = true ∧ den T (.loop cm) (dh (.sl .sh (a.map encI)) (.sl .sh (b.map encI)) (.int .i64 a.length) (.int .i64 i)) h = some (.exit 0, kA, h)) ∨
  (decide (a.drop i = b.drop i) = false ∧ ∃ σ, den T (.loop cm) (dh (.sl .sh (a.map encI)) (.sl .sh (b.map encI)) (.int .i64 a.length) (.int .i64 i)) h = some (.ret, σ, h) ∧ σ.getD 4 aa = .bool false) := by
 intro d
 induction d with
 | zero =>
  intro i hd
  have hd' : decide ((i : Int) < a.length) = false := decide_eq_false (by omega)
  refine .inl ⟨by rw [List.drop_eq_nil_of_le (by omega), List.drop_eq_nil_of_le (by omega)]; rfl, ?_⟩
  rw [ae]
  simp -implicitDefEqProofs (disch := (refine ab ?_; first | assumption | omega | (simp [go_sem] <;> omega) | with_unfolding_all rfl | decide)) only [go_sem, Nat.reduceAdd, Nat.reduceSub, reduceIte, reduceCtorEq, hd']
 | succ d ih =>
  intro i hd
  have hia : i < a.length := by omega
  have hib : i < b.length := by omega
  have hd' : decide ((i : Int) < a.length) = true := decide_eq_true (by omega)
  have ga : (a.map encI)[(i : Int).toNat]? = some (encI a[i]) := by simp [hia]
  have gb : (b.map encI)[(i : Int).toNat]? = some (encI b[i]) := by simp [hib]
  have e7 := incP (n := i) (by omega)
  have ih' := ih (i + 1) (by omega)
  have hdr := mW hia hib
  generalize a[i] = x at *
  generalize b[i] = y at *
  rw [hdr]
  simp only [encI] at ga gb
  by_cases hxy : x = y
  ·have hx : decide (x = y) = true := decide_eq_true hxy
   have hq : (x != y) = false := by simp [hxy]
   have hstep : den T (.loop cm) (dh (.sl .sh (a.map encI)) (.sl .sh (b.map encI)) (.int .i64 a.length) (.int .i64 i)) h = den T (.loop cm) (dh (.sl .sh (a.map encI)) (.sl .sh (b.map encI)) (.int .i64 a.length) (.int .i64 (i + 1 : Nat))) h := by
    rw [ae]
    simp (maxSteps := 2000000) -implicitDefEqProofs (disch := (refine ab ?_; first | assumption | omega | (simp [go_sem] <;> omega) | with_unfolding_all rfl | decide)) only [go_sem, Nat.reduceAdd, Nat.reduceSub, reduceIte, reduceCtorEq, hd', ga, gb, hq, e7]
    try rfl
   rw [hstep, hx, Bool.true_and]
   exact ih'
  ·have hx : decide (x = y) = false := decide_eq_false hxy
   have hq : (x != y) = true := by simp [hxy]
   refine .inr ⟨by rw [hx, Bool.false_and], ?_⟩
   rw [ae]
   simp (maxSteps := 2000000) -implicitDefEqProofs (disch := (refine ab ?_; first | assumption | omega | (simp [go_sem] <;> omega) | with_unfolding_all rfl | decide)) only [go_sem, Nat.reduceAdd, Nat.reduceSub, reduceIte, reduceCtorEq, hd', ga, gb, hq]
   exact ⟨_, rfl, rfl⟩
theorem Bw {a b : List Int} {h : AH} (ha : a.length ≤ 1000000000) : run T 63 [.sl .sh (a.map encI), .sl .sh (b.map encI)] h = some (.bool (decide (a = b)), h) := by
 rw [af T_63]
 by_cases hl : a.length = b.length
 ·have hq : ((a.length : Int) != (b.length : Int)) = false := by simp [hl]
  rcases DK (h := h) hl ha a.length 0 (by omega) with ⟨h1, h2⟩ | ⟨h1, σ, h2, h3⟩
  ·simp only [show ((0 : Nat) : Int) = 0 from rfl, List.drop_zero] at h1 h2
   simp (maxSteps := 2000000) -implicitDefEqProofs (disch := (refine ab ?_; first | assumption | omega | (simp [go_sem] <;> omega) | with_unfolding_all rfl | decide)) only [go_sem, Nat.reduceAdd, Nat.reduceSub, reduceIte, reduceCtorEq, bW, List.length_map, hq, h2, h1]
  ·simp only [show ((0 : Nat) : Int) = 0 from rfl, List.drop_zero] at h1 h2
   simp (maxSteps := 2000000) -implicitDefEqProofs (disch := (refine ab ?_; first | assumption | omega | (simp [go_sem] <;> omega) | with_unfolding_all rfl | decide)) only [go_sem, Nat.reduceAdd, Nat.reduceSub, reduceIte, reduceCtorEq, bW, List.length_map, hq, h2, h1, h3]
 ·have hq : ((a.length : Int) != (b.length : Int)) = true := by simp; omega
  have hne : decide (a = b) = false := decide_eq_false fun e => hl (by rw [e])
  simp (maxSteps := 2000000) -implicitDefEqProofs (disch := (refine ab ?_; first | assumption | omega | (simp [go_sem] <;> omega) | with_unfolding_all rfl | decide)) only [go_sem, Nat.reduceAdd, Nat.reduceSub, reduceIte, reduceCtorEq, bW, List.length_map, hq, hne]
theorem xo {l : List Int} {h : AH} (hn : l.length < 1000000000) : run T 77 [.sl .sh (l.map encI)] h = some (ow (l.map encI), h) := by
 rw [eG T_77]
 show (if szOK 1 (l.map encI) = true ∧ _ then _ else _) = _
 rw [if_pos ⟨Fh, by rw [List.length_map]; omega, by rw [List.length_map]; omega⟩]
end Go.Proofs.YtibchilpaaiecaaGreatDoor.L
/- Decimals, and texts cut at dots: plain laws. -/
set_option linter.all false
set_option maxRecDepth 100000
namespace Go.Proofs.YtibchilpaaiecaaGreatDoor.L
open Go.Proofs.YtibchilpaaiecaaGreatDoor.M Go.Proofs.YtibchilpaaiecaaGreatDoor.F Go.Proofs
theorem me {d : Nat} (h : d < 10) : (UInt8.ofNat (48 + d)).toNat = 48 + d := by simp; omega
theorem nS (u : Nat) : Lib.decDigits u ≠ [] := by
 rw [Lib.decDigits]; split <;> simp
theorem mf : ∀ u : Nat, ∀ c ∈ Lib.decDigits u, 48 ≤ c.toNat ∧ c.toNat ≤ 57 := by
 intro u
 induction u using Nat.strongRecOn with
 | _ u ih =>
  intro c hc
  rw [Lib.decDigits] at hc
  split at hc
  ·rw [List.mem_singleton] at hc
   rw [hc, me (by assumption)]; omega
  ·rcases List.mem_append.1 hc with hc | hc
   ·exact ih (u / 10) (by omega) c hc
   ·rw [List.mem_singleton] at hc
    rw [hc, me (by omega)]; omega
theorem pQ : ∀ (u : Nat) (rest : List UInt8), u < 10000000000 → Lib.parseUint10 0 (Lib.decDigits u ++ rest) = Lib.parseUint10 u rest := by
 intro u
 induction u using Nat.strongRecOn with
 | _ u ih =>
  intro rest hu
  rw [Lib.decDigits]
  split
  ·rename_i h
   simp only [List.cons_append, List.nil_append, Lib.parseUint10, me h]
   rw [if_pos (by omega), if_neg (by omega), if_neg (by omega)]
   congr 1
   omega
  ·rename_i h
   rw [List.append_assoc, ih (u / 10) (by omega) _ (by omega)]
   have hd : u % 10 < 10 := by omega
   simp only [List.cons_append, List.nil_append, Lib.parseUint10, me hd]
   rw [if_pos (by omega), if_neg (by omega), if_neg (by omega)]
   congr 1
   omega
theorem xp {u : Nat} (h : u ≤ 1048576) : Lib.atoiAll (Lib.decDigits u) = .ok (u : Int) := by
 have hp := pQ u [] (by omega)
 have hn := nS u
 have hd := mf u
 rw [List.append_nil] at hp
 cases hl : Lib.decDigits u with
 | nil => exact absurd hl hn
 | cons c r =>
  rw [hl] at hp hd
  have hc := hd c (by simp)
  rw [Lib.atoiAll_plain c r (by omega) (by omega)]
  unfold Lib.parseMag
  rw [if_neg (by simp), hp]
  simp only [Lib.parseUint10, Lib.signless]
  rw [if_neg (by omega)]
theorem dp (u : Nat) : Lib.itoa (u : Int) = Lib.decDigits u := by unfold Lib.itoa; rw [if_neg (by omega), Int.toNat_natCast]
theorem xq {u : Nat} {m : Int} (h : (u : Int) ≤ m) (hm : m ≤ 1048576) : numC (Lib.itoa (u : Int)) m = ((u : Int), true) := by
 unfold numC
 rw [dp, xp (by omega)]
 simp only [Prod.mk.injEq, true_and, decide_eq_true_eq]
 exact ⟨by omega, h, dp u⟩
theorem xr {s : List UInt8} {m : Int} (h : (numC s m).2 = true) : Lib.itoa (numC s m).1 = s ∧ 0 ≤ (numC s m).1 ∧ (numC s m).1 ≤ m := by
 unfold numC at h ⊢
 split at h
 ·simp only [decide_eq_true_eq] at h
  exact ⟨h.2.2, h.1, h.2.1⟩
 ·cases h
 ·cases h
def cU : List (List UInt8) → List UInt8
 | [] => []
 | [a] => a
 | a :: b :: r => a ++ 46 :: cU (b :: r)
theorem qZ : ∀ s : List UInt8, cU ((au 46 s).map (·.1)) = s
 | [] => rfl
 | b :: s => by
  have ih := qZ s
  obtain ⟨x, xs, h⟩ := fF 46 s
  rw [h] at ih
  simp only [au]
  split
  ·rename_i hb
   rw [h, List.map_cons]
   simp only [List.map_cons, cU, List.nil_append] at ih ⊢
   rw [ih, hb]
  ·rw [h]
   simp only [List.map_cons] at ih ⊢
   cases xs with
   | nil => simp only [List.map_nil, cU] at ih ⊢; rw [ih]
   | cons y ys => simp only [List.map_cons, cU, List.cons_append] at ih ⊢; rw [ih]
theorem mX {c : UInt8} : ∀ {w : List UInt8}, c ∉ w → (au c w).map (·.1) = [w]
 | [], _ => rfl
 | b :: w, h => by
  have ih := mX (c := c) (w := w) (fun x => h (List.mem_cons_of_mem _ x))
  obtain ⟨x, xs, hx⟩ := fF c w
  rw [hx] at ih
  simp only [au]
  rw [if_neg (fun e => h (by rw [e]; simp)), hx]
  simp only [List.map_cons, List.cons.injEq] at ih ⊢
  exact ⟨by rw [ih.1]; simp, ih.2⟩
theorem kX {c : UInt8} {s : List UInt8} : ∀ {w : List UInt8}, c ∉ w → (au c (w ++ c :: s)).map (·.1) = w :: (au c s).map (·.1)
 | [], _ => by simp [au]
 | b :: w, h => by
  have ih := kX (c := c) (s := s) (w := w) (fun x => h (List.mem_cons_of_mem _ x))
  obtain ⟨x, xs, hx⟩ := fF c (w ++ c :: s)
  rw [hx] at ih
  simp only [List.cons_append, au]
  rw [if_neg (fun e => h (by rw [e]; simp)), hx]
  simp only [List.map_cons, List.cons.injEq] at ih ⊢
  exact ⟨by simp [ih.1], ih.2⟩
theorem sO {k : Int} (h : 0 ≤ k) {c : UInt8} (hc : c.toNat < 48) : c ∉ Lib.itoa k := by
 obtain ⟨u, rfl⟩ : ∃ u : Nat, k = u := ⟨k.toNat, by omega⟩
 rw [dp]
 intro hm
 have := mf u c hm
 omega
theorem nJ : ∀ (p : List Int), p ≠ [] → (∀ k ∈ p, 0 ≤ k) → (au 46 (cU (p.map Lib.itoa))).map (·.1) = p.map Lib.itoa
 | [], h, _ => absurd rfl h
 | [a], _, h => mX (sO (h a (by simp)) (by decide))
 | a :: b :: r, _, h => by
  simp only [List.map_cons, cU]
  rw [kX (sO (h a (by simp)) (by decide))]
  have := nJ (b :: r) (by simp) fun k hk => h k (List.mem_cons_of_mem _ hk)
  simp only [List.map_cons] at this
  rw [this]
theorem iZ : ∀ l : List (List UInt8), cU l = Lib.join l [46]
 | [] => rfl
 | [a] => by rw [Lib.join_one]; rfl
 | a :: b :: r => by
  rw [cU, iZ (b :: r), Lib.join_cons, Lib.join_cons]
  simp [Lib.joinTail]
theorem uw {k : Int} (h0 : 0 ≤ k) (h1 : k ≤ 1048576) : Lib.atoiAll (Lib.itoa k) = .ok k := by
 obtain ⟨u, rfl⟩ : ∃ u : Nat, k = u := ⟨k.toNat, by omega⟩
 rw [dp, xp (by omega)]
end Go.Proofs.YtibchilpaaiecaaGreatDoor.L
/- path.Parse. -/
set_option linter.all false
set_option maxRecDepth 100000
namespace Go.Proofs.YtibchilpaaiecaaGreatDoor.L
open Go.Proofs.YtibchilpaaiecaaGreatDoor.M Go.Proofs.YtibchilpaaiecaaGreatDoor.F Go.Proofs
def atoO (w : List UInt8) : Option Int := match Lib.atoiAll w with | .ok v => some v | _ => none
theorem mY {w : List UInt8} {v : Int} {t : Nat} (h : atoO w = some v) : n4 t w = .tup [.int .i64 v, .nili] := by
 unfold atoO at h
 unfold n4
 split at h <;> try (cases h; done)
 rename_i u hu
 cases h
 rw [hu]
theorem pR {w : List UInt8} {t : Nat} (h : atoO w = none) : ∃ n, n4 t w = .tup [.int .i64 n, .iface t .any] := by
 unfold atoO at h
 unfold n4
 cases hu : Lib.atoiAll w with
 | ok u => rw [hu] at h; cases h
 | range => exact ⟨_, rfl⟩
 | _ => exact ⟨_, rfl⟩
def HQ (p : List Int) (r : List UInt8) : AH := [.cells [ow []], .cells [.bool false], .cells [ow (p.map encI)], .cells [.str ⟨r.toArray⟩], .cells [.str ⟨#[46]⟩], .cells [.int .i64 0]]
def pthS : List Int → List (List UInt8) → Option (List Int)
 | acc, [] => some acc
 | acc, w :: ws => match atoO w with
  | some v => if acc.length ≠ 6 then pthS (acc ++ [v]) ws else none
  | none => none
def endQ : List Int → List (List UInt8 × List UInt8) → List Int × List UInt8
 | p, [] => (p, [])
 | p, [(x, r)] => match atoO x with
  | some v => if p.length ≠ 6 then (p ++ [v], r) else (p, r)
  | none => (p, r)
 | p, (x, r) :: y :: xs => match atoO x with
  | some v => if p.length ≠ 6 then endQ (p ++ [v]) (y :: xs) else (p, r)
  | none => (p, r)
def sQ (v0 v1 v5 v6 v7 v8 v9 v10 v11 v13 v14 v15 v16 v17 v18 v19 v20 v21 v22 v23 v24 v25 v26 v27 v28 v29 v30 v31 v32 v33 v34 v35 v36 v37 v38 v12 : AV) : List AV := [v0, v1, .box 0 0, .box 1 0, .box 2 0, v5, v6, v7, v8, v9, v10, v11, v12, v13, v14, v15, v16, v17, v18, v19, v20, v21, v22, v23, v24, v25, v26, v27, v28, v29, v30, v31, v32, v33, v34, v35, v36, v37, v38]
section
variable {v0 v1 v5 v6 v7 v8 v9 v10 v11 v13 v14 v15 v16 v17 v18 v19 v20 v21 v22 v23 v24 v25 v26 v27 v28 v29 v30 v31 v32 v33 v34 v35 v36 v37 v38 : AV}
theorem nT {v12 : AV} {X : List UInt8} : (shL (sQ v0 v1 v5 v6 v7 v8 v9 v10 v11 v13 v14 v15 v16 v17 v18 v19 v20 v21 v22 v23 v24 v25 v26 v27 v28 v29 v30 v31 v32 v33 v34 v35 v36 v37 v38 v12)).set 12 (.str ⟨X.toArray⟩) = sQ (AV.sh v0) (AV.sh v1) (AV.sh v5) (AV.sh v6) (AV.sh v7) (AV.sh v8) (AV.sh v9) (AV.sh v10) (AV.sh v11) (AV.sh v13) (AV.sh v14) (AV.sh v15) (AV.sh v16) (AV.sh v17) (AV.sh v18) (AV.sh v19) (AV.sh v20) (AV.sh v21) (AV.sh v22) (AV.sh v23) (AV.sh v24) (AV.sh v25) (AV.sh v26) (AV.sh v27) (AV.sh v28) (AV.sh v29) (AV.sh v30) (AV.sh v31) (AV.sh v32) (AV.sh v33) (AV.sh v34) (AV.sh v35) (AV.sh v36) (AV.sh v37) (AV.sh v38) (.str ⟨X.toArray⟩) := rfl
theorem asgQ {x : List UInt8} {h : AH} : ∃ σ1, den T bY (sQ v0 v1 v5 v6 v7 v8 v9 v10 v11 v13 v14 v15 v16 v17 v18 v19 v20 v21 v22 v23 v24 v25 v26 v27 v28 v29 v30 v31 v32 v33 v34 v35 v36 v37 v38 (.str ⟨x.toArray⟩)) h = some (.normal, σ1, h) := by
 simp -implicitDefEqProofs (disch := (refine ab ?_; first | assumption | omega | (simp [go_sem] <;> omega) | with_unfolding_all rfl | decide)) only [go_sem, Nat.reduceAdd, Nat.reduceSub, reduceIte, reduceCtorEq, sQ]
 exact ⟨_, rfl⟩
theorem uy {x r : List UInt8} {p : List Int} (hx : x.length ≤ 281474976710656) (hb : atoO x = none) : ∃ σ2, den T (.seq bY dY) (sQ v0 v1 v5 v6 v7 v8 v9 v10 v11 v13 v14 v15 v16 v17 v18 v19 v20 v21 v22 v23 v24 v25 v26 v27 v28 v29 v30 v31 v32 v33 v34 v35 v36 v37 v38 (.str ⟨x.toArray⟩)) (HQ p r) = some (.ret, σ2, HQ p r) := by
 have hn := jz (s := x) (h := HQ p r) hx
 obtain ⟨n, h1⟩ := pR (t := 151) hb
 rw [h1] at hn
 simp only [HQ] at hn
 simp (maxSteps := 2000000) -implicitDefEqProofs (disch := (refine ab ?_; first | assumption | omega | (simp [go_sem] <;> omega) | with_unfolding_all rfl | decide)) only [go_sem, Nat.reduceAdd, Nat.reduceSub, reduceIte, reduceCtorEq, sQ, HQ, hn]
 exact ⟨_, rfl⟩
theorem re {x r : List UInt8} {p : List Int} {v : Int} (hx : x.length ≤ 281474976710656) (hb : atoO x = some v) (h6 : p.length = 6) : ∃ σ2, den T (.seq bY dY) (sQ v0 v1 v5 v6 v7 v8 v9 v10 v11 v13 v14 v15 v16 v17 v18 v19 v20 v21 v22 v23 v24 v25 v26 v27 v28 v29 v30 v31 v32 v33 v34 v35 v36 v37 v38 (.str ⟨x.toArray⟩)) (HQ p r) = some (.ret, σ2, HQ p r) := by
 have hn := jz (s := x) (h := HQ p r) hx
 rw [mY hb] at hn
 have d1 : (((p.map encI).length : Int) == 6) = true := by simp [h6]
 simp only [HQ] at hn
 simp (maxSteps := 2000000) -implicitDefEqProofs (disch := (refine ab ?_; first | assumption | omega | (simp [go_sem] <;> omega) | with_unfolding_all rfl | decide)) only [go_sem, Nat.reduceAdd, Nat.reduceSub, reduceIte, reduceCtorEq, sQ, HQ, hn, d1]
 exact ⟨_, rfl⟩
theorem xt {x r : List UInt8} {p : List Int} {v : Int} (hx : x.length ≤ 281474976710656) (hb : atoO x = some v) (h6 : p.length < 6) :
  ∃ σ2, den T (.seq bY dY) (sQ v0 v1 v5 v6 v7 v8 v9 v10 v11 v13 v14 v15 v16 v17 v18 v19 v20 v21 v22 v23 v24 v25 v26 v27 v28 v29 v30 v31 v32 v33 v34 v35 v36 v37 v38 (.str ⟨x.toArray⟩)) (HQ p r) = some (.normal, σ2, HQ (p ++ [v]) r) := by
 have hn := jz (s := x) (h := HQ p r) hx
 rw [mY hb] at hn
 have d1 : (((p.map encI).length : Int) == 6) = false := by simp; omega
 have e1 : (p ++ [v]).map encI = p.map encI ++ [[.int .i64 v]] := by simp [encI]
 simp only [HQ] at hn
 simp (maxSteps := 2000000) -implicitDefEqProofs (disch := (refine ab ?_; first | assumption | omega | (simp [go_sem] <;> omega) | with_unfolding_all rfl | decide)) only [go_sem, Nat.reduceAdd, Nat.reduceSub, reduceIte, reduceCtorEq, sQ, HQ, hn, d1, e1]
 exact ⟨_, rfl⟩
theorem HD {v12 : AV} : ∀ (xs : List (List UInt8 × List UInt8)) (x r : List UInt8) (p : List Int), (∀ q ∈ (x, r) :: xs, q.1.length ≤ 281474976710656) → p.length ≤ 6 →
  rsV (den T bY) (den T dY) 12 3 4 5 46 (sQ v0 v1 v5 v6 v7 v8 v9 v10 v11 v13 v14 v15 v16 v17 v18 v19 v20 v21 v22 v23 v24 v25 v26 v27 v28 v29 v30 v31 v32 v33 v34 v35 v36 v37 v38 v12) ((x, r) :: xs) (HQ p r) = some (if (pthS p (x :: xs.map (·.1))).isSome then .normal else .ret, HQ (endQ p ((x, r) :: xs)).1 (endQ p ((x, r) :: xs)).2) := by
 intro xs
 induction xs with
 | nil =>
  intro x r p hl hp
  have hx := hl (x, r) (by simp)
  have ha : ∃ σ1 h1, den T bY ((shL (sQ v0 v1 v5 v6 v7 v8 v9 v10 v11 v13 v14 v15 v16 v17 v18 v19 v20 v21 v22 v23 v24 v25 v26 v27 v28 v29 v30 v31 v32 v33 v34 v35 v36 v37 v38 v12)).set 12 (.str ⟨x.toArray⟩)) (HQ p r) = some (.normal, σ1, h1) := by
   rw [nT]; obtain ⟨σ1, h1⟩ := asgQ; exact ⟨σ1, _, h1⟩
  simp only [List.map_nil, pthS, endQ]
  cases hb : atoO x with
  | none =>
   rw [iQ ha (by rw [nT]; exact uy hx hb)]
   simp
  | some v =>
   by_cases h6 : p.length = 6
   ·rw [iQ ha (by rw [nT]; exact re hx hb h6)]
    simp [h6]
   ·rw [kV ha (by rw [nT]; exact xt hx hb (by omega)) rfl rfl rfl]
    simp [h6]
 | cons y xs ih =>
  intro x r p hl hp
  obtain ⟨y, r'⟩ := y
  have hx := hl (x, r) (by simp)
  have ha : ∃ σ1 h1, den T bY ((shL (sQ v0 v1 v5 v6 v7 v8 v9 v10 v11 v13 v14 v15 v16 v17 v18 v19 v20 v21 v22 v23 v24 v25 v26 v27 v28 v29 v30 v31 v32 v33 v34 v35 v36 v37 v38 v12)).set 12 (.str ⟨x.toArray⟩)) (HQ p r) = some (.normal, σ1, h1) := by
   rw [nT]; obtain ⟨σ1, h1⟩ := asgQ; exact ⟨σ1, _, h1⟩
  rw [List.map_cons, pthS, endQ]
  cases hb : atoO x with
  | none =>
   rw [iQ ha (by rw [nT]; exact uy hx hb)]
   simp
  | some v =>
   by_cases h6 : p.length = 6
   ·rw [iQ ha (by rw [nT]; exact re hx hb h6)]
    simp [h6]
   ·have h1 := ih y r' (p ++ [v]) (fun q hq => hl q (List.mem_cons_of_mem _ hq)) (by simp; omega)
    rw [kV ha (by rw [nT]; exact xt hx hb (by omega)) rfl rfl rfl]
    have e : (HQ (p ++ [v]) r).set 3 (.cells [.str ⟨r'.toArray⟩]) = HQ (p ++ [v]) r' := rfl
    simp only [e, h1]
    simp [h6]
theorem Bz : ∀ (xs : List (List UInt8 × List UInt8)) (p q : List Int), pthS p (xs.map (·.1)) = some q → (endQ p xs).1 = q
 | [], p, q, h => by simpa [pthS, endQ] using h
 | [(x, r)], p, q, h => by
  simp only [List.map_cons, List.map_nil, pthS] at h
  simp only [endQ]
  cases hb : atoO x with
  | none => rw [hb] at h; cases h
  | some v =>
   rw [hb] at h
   simp only at h ⊢
   split at h
   ·rename_i hc; rw [if_pos hc]; simpa using h
   ·cases h
 | (x, r) :: y :: xs, p, q, h => by
  rw [List.map_cons, pthS] at h
  rw [endQ]
  cases hb : atoO x with
  | none => rw [hb] at h; cases h
  | some v =>
   rw [hb] at h
   simp only at h ⊢
   split at h
   ·rename_i hc; rw [if_pos hc]; exact Bz (y :: xs) _ _ h
   ·cases h
theorem J9 {v12 : AV} {w : List UInt8} (hw : w.length ≤ 281474976710656) :
  rsS T (den T bY) (den T dY) 12 (sQ v0 v1 v5 v6 v7 v8 v9 v10 v11 v13 v14 v15 v16 v17 v18 v19 v20 v21 v22 v23 v24 v25 v26 v27 v28 v29 v30 v31 v32 v33 v34 v35 v36 v37 v38 v12) (HQ [] w) (.fn (.func 118) [] [.box 4 0, .box 3 0, .box 5 0]) =
   some (if (pthS [] ((au 46 w).map (·.1))).isSome then .normal else .ret, sQ v0 v1 v5 v6 v7 v8 v9 v10 v11 v13 v14 v15 v16 v17 v18 v19 v20 v21 v22 v23 v24 v25 v26 v27 v28 v29 v30 v31 v32 v33 v34 v35 v36 v37 v38 v12, HQ (endQ [] (au 46 w)).1 (endQ [] (au 46 w)).2) := by
 rw [Bh (c := 46) (s := w) mN (Bg rfl rfl rfl (by decide) (by decide) (by omega))]
 obtain ⟨x, xs, h⟩ := fF 46 w
 have hl : ∀ q ∈ au 46 w, q.1.length ≤ 281474976710656 := fun q hq => Nat.le_trans (ft hq) hw
 rw [h] at hl ⊢
 rw [HD xs x w [] hl (by simp)]
 rfl
end
def prsP (s : List UInt8) : List Int × Bool :=
 if s = [] then ([], true) else match pthS [] ((au 46 s).map (·.1)) with
  | none => ([], false)
  | some q => if rigP q = true ∧ dotT q = s then (q, true) else ([], false)
set_option maxHeartbeats 4000000 in
theorem HE {s : List UInt8} (hs : s.length ≤ 281474976710656) : run T 116 [.str ⟨s.toArray⟩] [] = some (.tup [.sl .sh ((prsP s).1.map encI), .bool (prsP s).2], []) := by
 rw [af K5]
 unfold prsP
 by_cases h0 : s = []
 ·have e1 : (s == []) = true := by rw [h0]; rfl
  rw [if_pos h0]
  simp (maxSteps := 2000000) -implicitDefEqProofs (disch := (refine ab ?_; first | assumption | omega | (simp [go_sem] <;> omega) | with_unfolding_all rfl | decide)) only [go_sem, Nat.reduceAdd, Nat.reduceSub, reduceIte, reduceCtorEq, dI, e1, List.map_nil]
 ·have e1 : (s == []) = false := by simpa using h0
  rw [if_neg h0]
  have h3 := pN (s := ⟨s.toArray⟩) (d := ⟨#[46]⟩) (h := [.cells [ow []], .cells [.bool false], .cells [ow []]])
  simp only [List.length_cons, List.length_nil, List.cons_append, List.nil_append, Nat.zero_add, Nat.reduceAdd] at h3
  have h4 := @J9
  simp only [sQ] at h4
  have h5 := fun v0 v1 v5 v6 v7 v8 v9 v10 v11 v13 v14 v15 v16 v17 v18 v19 v20 v21 v22 v23 v24 v25 v26 v27 v28 v29 v30 v31 v32 v33 v34 v35 v36 v37 v38 v12 => @h4 v0 v1 v5 v6 v7 v8 v9 v10 v11 v13 v14 v15 v16 v17 v18 v19 v20 v21 v22 v23 v24 v25 v26 v27 v28 v29 v30 v31 v32 v33 v34 v35 v36 v37 v38 v12 s hs
  clear h4
  have hz := Bz (au 46 s) []
  generalize endQ [] (au 46 s) = ef at *
  obtain ⟨p', r'⟩ := ef
  cases hp : pthS [] ((au 46 s).map (·.1)) with
  | none =>
   simp only [hp, HQ, Option.isSome_none, Bool.false_eq_true, if_false, List.map_nil] at h5 ⊢
   simp (maxSteps := 2000000) -implicitDefEqProofs (disch := (refine ab ?_; first | assumption | omega | (simp [go_sem] <;> omega) | with_unfolding_all rfl | decide)) only [go_sem, Nat.reduceAdd, Nat.reduceSub, reduceIte, reduceCtorEq, dI, e1, h3, h5]
  | some q =>
   have hz' := hz q hp
   simp only at hz'
   subst hz'
   simp only [hp, HQ, Option.isSome_some, if_true, List.map_nil] at h5 ⊢
   have h6 := fun h => sM (l := p') (h := h)
   cases hr : rigP p' with
   | false =>
    rw [hr] at h6
    rw [if_neg (by simp)]
    simp (maxSteps := 2000000) -implicitDefEqProofs (disch := (refine ab ?_; first | assumption | omega | (simp [go_sem] <;> omega) | with_unfolding_all rfl | decide)) only [go_sem, Nat.reduceAdd, Nat.reduceSub, reduceIte, reduceCtorEq, dI, e1, h3, h5, h6, List.map_nil]
   | true =>
    rw [hr] at h6
    have h7 := fun h => Bu (l := p') (h := h) (by have := (fG hr).1; omega) (sN hr)
    by_cases hd : dotT p' = s
    ·have e2 : (dotT p' == s) = true := by simp [hd]
     rw [if_pos ⟨rfl, hd⟩]
     simp (maxSteps := 2000000) -implicitDefEqProofs (disch := (refine ab ?_; first | assumption | omega | (simp [go_sem] <;> omega) | with_unfolding_all rfl | decide)) only [go_sem, Nat.reduceAdd, Nat.reduceSub, reduceIte, reduceCtorEq, dI, e1, h3, h5, h6, h7, e2, Bool.not_true]
    ·have e2 : (dotT p' == s) = false := by simp [hd]
     rw [if_neg (by simp [hd])]
     simp (maxSteps := 2000000) -implicitDefEqProofs (disch := (refine ab ?_; first | assumption | omega | (simp [go_sem] <;> omega) | with_unfolding_all rfl | decide)) only [go_sem, Nat.reduceAdd, Nat.reduceSub, reduceIte, reduceCtorEq, dI, e1, h3, h5, h6, h7, e2, Bool.not_false, List.map_nil]
theorem xu : ∀ (p a : List Int), (∀ k ∈ p, 0 ≤ k ∧ k ≤ 1048576) → a.length + p.length ≤ 6 → pthS a (p.map Lib.itoa) = some (a ++ p)
 | [], a, _, _ => by simp [pthS]
 | k :: p, a, h, hl => by
  obtain ⟨h1, h2⟩ := h k (by simp)
  have hk : atoO (Lib.itoa k) = some k := by unfold atoO; rw [uw h1 h2]
  simp only [List.map_cons, pthS, List.length_cons, hk] at hl ⊢
  rw [if_pos (by omega), xu p _ (fun k hk => h k (List.mem_cons_of_mem _ hk)) (by simp; omega)]
  simp
theorem HF (k : Int) : Lib.itoa k ≠ [] := by
 unfold Lib.itoa
 split
 ·simp
 ·exact nS _
theorem HH {p : List Int} (h : p ≠ []) : dotT p ≠ [] := by
 cases p with
 | nil => exact absurd rfl h
 | cons k r =>
  have := HF k
  rw [dotT, List.map_cons, Lib.join_cons]
  simp [this]
theorem BA {p : List Int} (h : rigP p = true) : prsP (dotT p) = (p, true) := by
 unfold prsP
 by_cases h0 : p = []
 ·subst h0; rfl
 ·rw [if_neg (HH h0)]
  obtain ⟨h6, hk⟩ := fG h
  have hs : (au 46 (dotT p)).map (·.1) = p.map Lib.itoa := by
   unfold dotT
   rw [← iZ]
   exact nJ p h0 fun k hk' => (hk k hk').1
  rw [hs, xu p [] hk (by simpa using h6)]
  simp [h]
end Go.Proofs.YtibchilpaaiecaaGreatDoor.L
