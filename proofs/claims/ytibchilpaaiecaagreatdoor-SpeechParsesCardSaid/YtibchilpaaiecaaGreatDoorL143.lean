/- The document's call of a text: walked. -/
import Derived.Test.YtibchilpaaiecaaGreatDoorL141
import Derived.Test.YtibchilpaaiecaaGreatDoorL119
set_option linter.all false
set_option maxRecDepth 100000
set_option maxHeartbeats 32000000
namespace Go.Proofs.YtibchilpaaiecaaGreatDoor.L
open Go.Proofs.YtibchilpaaiecaaGreatDoor.M Go.Proofs.YtibchilpaaiecaaGreatDoor.F Go.Proofs
theorem IF {k : Nat} (hk : k ≤ 20) : run T 9 [.int .i64 k] [] = some (.str ⟨(nmT k).toArray⟩, []) := by
 have hop : 0 ≤ (k : Int) ∧ (k : Int) ≤ 20 := by omega
 generalize (k : Int) = op at *
 rcases op21 hop with rfl | rfl | h
 ·exact fm (n := 300) (by kernel_rfl)
 ·exact fm (n := 300) (by kernel_rfl)
 rcases dS h with rfl | rfl | rfl | rfl | rfl | rfl | rfl | rfl | rfl | rfl | rfl | rfl | rfl | rfl | rfl | rfl | rfl | rfl | rfl <;> exact fm (n := 300) (by kernel_rfl)
def roF (w : List UInt8) : Nat → Nat → Int → Int
 | 0, _, c => c
 | f + 1, k, c => roF w f (k + 1) (if nmT k = w then k else c)
def zC (op : Int) : List AV := [.int .i64 op, ow [], ow [], ow [], ow [], .int .i64 0, .int .i64 0, ow [], .str ⟨#[]⟩, ow [], .bool false]
theorem Ly (op : Int) : shL (zC op) = encC (eA op) := by simp only [zC, shL, nZ, AV.sh]; rfl
theorem IG {ws : List (List UInt8)} {x : List UInt8} {X : Bx} (hx : (ws.map encT)[(0 : Int).toNat]? = some [.str ⟨x.toArray⟩]) : ∀ (f k : Nat) (c : Int), f + k = 21 →
  den T (.loop fM) (jF (.box 0 0) (ow (ws.map encT)) (.box 1 0) (.int .i64 k)) [X, .cells (zC c)] = some (.exit 0, jG (.box 0 0) (ow (ws.map encT)) (.box 1 0), [X, .cells (zC (roF x f k c))]) := by
 intro f
 induction f with
 | zero =>
  intro k c hk
  have hd' : decide ((k : Int) ≤ 20) = false := decide_eq_false (by omega)
  rw [roF, ae]
  simp -implicitDefEqProofs (disch := (refine ab ?_; first | assumption | omega | (simp [go_sem] <;> omega) | with_unfolding_all rfl | decide)) only [go_sem, Nat.reduceAdd, Nat.reduceSub, reduceIte, reduceCtorEq, hd']
 | succ f ih =>
  intro k c hk
  have hd' : decide ((k : Int) ≤ 20) = true := decide_eq_true (by omega)
  have q1 := IF (k := k) (by omega)
  have e7 := incP (n := k) (by omega)
  rw [roF]
  by_cases hn : nmT k = x
  ·have hq : (nmT (k : Int) == x) = true := by simp [hn]
   rw [if_pos hn]
   have ih' := ih (k + 1) k (by omega)
   generalize nmT (k : Int) = nm at *
   simp only [zC] at ih' ⊢
   rw [ae]
   simp (maxSteps := 2000000) -implicitDefEqProofs (disch := (refine ab ?_; first | assumption | omega | (simp [go_sem] <;> omega) | with_unfolding_all rfl | decide)) only [go_sem, Nat.reduceAdd, Nat.reduceSub, reduceIte, reduceCtorEq, hd', q1, hx, hq, e7]
   exact ih'
  ·have hq : (nmT (k : Int) == x) = false := by simp [hn]
   rw [if_neg hn]
   have ih' := ih (k + 1) c (by omega)
   generalize nmT (k : Int) = nm at *
   simp only [zC] at ih' ⊢
   rw [ae]
   simp (maxSteps := 2000000) -implicitDefEqProofs (disch := (refine ab ?_; first | assumption | omega | (simp [go_sem] <;> omega) | with_unfolding_all rfl | decide)) only [go_sem, Nat.reduceAdd, Nat.reduceSub, reduceIte, reduceCtorEq, hd', q1, hx, hq, e7]
   exact ih'
theorem Km (w : List UInt8) : roF w 21 0 (-1) = ixF 0 nmL w := by
 by_cases hm : w ∈ nmL
 ·simp only [nmL, List.mem_cons, List.not_mem_nil, or_false] at hm
  rcases hm with rfl | rfl | rfl | rfl | rfl | rfl | rfl | rfl | rfl | rfl | rfl | rfl | rfl | rfl | rfl | rfl | rfl | rfl | rfl | rfl | rfl <;> decide
 ·have h1 : ∀ (f k : Nat) (c : Int), f + k = 21 → roF w f k c = c := by
   intro f
   induction f with
   | zero => intro k c _; rfl
   | succ f ih =>
    intro k c hk
    rw [roF, if_neg, ih _ _ (by omega)]
    intro e
    apply hm
    have := Ft (op := (k : Int)) (by omega)
    rw [e, Int.toNat_natCast, List.getElem?_map] at this
    obtain ⟨y, hy, he⟩ := Option.map_eq_some_iff.1 this
    have hw : y = w := by
     simp only [encT, List.cons.injEq, AV.str.injEq, and_true] at he
     simpa using he
    subst hw
    exact List.mem_of_getElem? hy
  have h2 : ∀ (l : List (List UInt8)) (i : Nat), w ∉ l → ixF i l w = -1 := by
   intro l
   induction l with
   | nil => intro i _; rfl
   | cons x r ih =>
    intro i hn
    simp only [List.mem_cons, not_or] at hn
    rw [ixF, if_neg hn.1, ih _ hn.2]
  rw [h1 _ _ _ rfl, h2 _ _ hm]
def setR (E : List AV) (p : UInt8) (w : List UInt8) : List AV :=
 if p = 97 then E.set 1 (frmV w) else if p = 115 then E.set 9 (frmV w) else if p = 108 then E.set 2 (ow ((labP w).1.map encE)) else if p = 101 then E.set 3 (ow ((labP w).1.map encE)) else
 if p = 110 then E.set 5 (.int .i64 (numR w).1) else if p = 109 then E.set 6 (.int .i64 (numR w).1) else if p = 111 then E.set 4 (ow ((ownP w).1.map encT)) else if p = 116 then E.set 7 (uQ w) else
 if p = 99 then E.set 8 (.str ⟨w.toArray⟩) else E.set 10 (.bool (w == [119]))
theorem EK (E : List AV) (p : UInt8) (w : List UInt8) : (setR E p w).length = E.length := by
 unfold setR
 repeat' split
 all_goals simp
theorem IH {E : List AV} {o : Cal} (h : shL E = encC o) {p : UInt8} {w : List UInt8} (hp : Ltr p) (hk : okR p w = true) : shL (setR E p w) = encC (setP o p w) := by
 rcases hp with rfl | rfl | rfl | rfl | rfl | rfl | rfl | rfl | rfl | rfl
 ·show shL (E.set 1 (frmV w)) = _
  rw [du, h, sW]; rfl
 ·show shL (E.set 9 (frmV w)) = _
  rw [du, h, sW]; rfl
 ·show shL (E.set 2 (ow ((labP w).1.map encE))) = _
  rw [du, h, nZ]; rfl
 ·show shL (E.set 3 (ow ((labP w).1.map encE))) = _
  rw [du, h, nZ]; rfl
 ·show shL (E.set 5 (.int .i64 (numR w).1)) = _
  rw [du, h, ← (kQ hk).1]; rfl
 ·show shL (E.set 6 (.int .i64 (numR w).1)) = _
  rw [du, h, ← (kQ hk).1]; rfl
 ·show shL (E.set 4 (ow ((ownP w).1.map encT))) = _
  rw [du, h, nZ]; rfl
 ·show shL (E.set 7 (uQ w)) = _
  rw [du, h, Ey, ← (uT hk).1]; rfl
 ·show shL (E.set 8 (.str ⟨w.toArray⟩)) = _
  rw [du, h]; rfl
 ·show shL (E.set 10 (.bool (w == [119]))) = _
  rw [du, h]; rfl
def low (p : UInt8) : UInt8 := if p = 100 then 110 else p
theorem Kn (op : Int) : (pS op).length ≤ 6 ∧ ∀ p ∈ pS op, p = 97 ∨ p = 115 ∨ p = 108 ∨ p = 101 ∨ p = 110 ∨ p = 100 ∨ p = 109 ∨ p = 111 ∨ p = 116 ∨ p = 99 ∨ p = 119 := by
 by_cases hop : 2 ≤ op ∧ op ≤ 20
 ·rcases dS hop with rfl | rfl | rfl | rfl | rfl | rfl | rfl | rfl | rfl | rfl | rfl | rfl | rfl | rfl | rfl | rfl | rfl | rfl | rfl <;> decide
 ·rw [pX hop]; exact ⟨by simp, fun p hp => by cases hp⟩
theorem Ko (op : Int) : fS op = (pS op).map low := by
 by_cases hop : 0 ≤ op ∧ op ≤ 20
 ·rcases op21 hop with rfl | rfl | h
  ·rfl
  ·rfl
  rcases dS h with rfl | rfl | rfl | rfl | rfl | rfl | rfl | rfl | rfl | rfl | rfl | rfl | rfl | rfl | rfl | rfl | rfl | rfl | rfl <;> rfl
 ·rw [pX (by omega)]; unfold fS; rw [if_neg hop]; rfl
theorem II {p : UInt8} (h : p = 97 ∨ p = 115 ∨ p = 108 ∨ p = 101 ∨ p = 110 ∨ p = 100 ∨ p = 109 ∨ p = 111 ∨ p = 116 ∨ p = 99 ∨ p = 119) : Ltr (low p) := by
 rcases h with rfl | rfl | rfl | rfl | rfl | rfl | rfl | rfl | rfl | rfl | rfl <;> (unfold Ltr; decide)
theorem EL {ws : List (List UInt8)} {ps : List UInt8} {E : List AV} {i : Nat} {p : UInt8} {w : List UInt8} (hE : E.length = 11) (hi : ps[i]? = some p) (hps : ps.length ≤ 6) (hwi : ws[i + 1]? = some w) (hw : w.length ≤ 90000)
  (hp : p = 97 ∨ p = 115 ∨ p = 108 ∨ p = 101 ∨ p = 110 ∨ p = 100 ∨ p = 109 ∨ p = 111 ∨ p = 116 ∨ p = 99 ∨ p = 119) :
  (okR (low p) w = true ∧ den T (.loop br) (bP (.box 0 0) (ow (ws.map encT)) (.box 1 0) (.str ⟨ps.toArray⟩) (.int .i64 i)) [.cells (zC 0), .cells E] = den T (.loop br) (bP (.box 0 0) (ow (ws.map encT)) (.box 1 0) (.str ⟨ps.toArray⟩) (.int .i64 (i + 1 : Nat))) [.cells (zC 0), .cells (setR E (low p) w)]) ∨
  (okR (low p) w = false ∧ ∃ σ E', den T (.loop br) (bP (.box 0 0) (ow (ws.map encT)) (.box 1 0) (.str ⟨ps.toArray⟩) (.int .i64 i)) [.cells (zC 0), .cells E] = some (.ret, σ, [.cells (zC 0), .cells E']) ∧ σ.getD 2 aa = .box 0 0 ∧ σ.getD 3 aa = .int .i64 10) := by
 have hz : (⟨ps.toArray⟩ : ByteArray).size = ps.length := by simp [ByteArray.size]
 have hib := (List.getElem?_eq_some_iff.1 hi).1
 have hd' : decide ((i : Int) < ps.length) = true := decide_eq_true (by omega)
 have hg : (⟨ps.toArray⟩ : ByteArray)[(i : Int).toNat]? = some p := by
  have := gL (a := ps) (i := i)
  rw [Int.toNat_natCast, this, hi]
 have hgw : (ws.map encT)[(((i + 1 : Nat) : Int)).toNat]? = some [.str ⟨w.toArray⟩] := by rw [Int.toNat_natCast, List.getElem?_map, hwi]; rfl
 have e7 := incP (n := i) (by omega)
 have q1 := Cm hw
 have q2 := x5 hw
 rw [yc] at q2
 have q3 := uP (s := w) (by omega)
 have q4 := x6 hw
 have q5 := Co hw
 have q6 := kZ (s := w) (by omega)
 rw [show (parC w).2.2 = rigC w from rfl] at q6
 have b : ∀ k, k ≤ 10 → Nat.ble (0 + k + 1) E.length = true := fun k hk => Nat.ble_eq_true_of_le (by omega)
 have hml : (ws.map encT).length = ws.length := List.length_map ..
 clear hwi hi hib hps hw
 rcases hp with rfl | rfl | rfl | rfl | rfl | rfl | rfl | rfl | rfl | rfl | rfl
 ·have hk : ((UInt8.toNat 97 : Nat) : Int) = 97 := rfl
  rw [show okR (low 97) w = (nf w) from rfl, show setR E (low 97) w = E.set 1 (frmV w) from rfl]
  have b1 := b 1 (by omega)
  have t1 : ∀ v : AV, E.take 1 ++ v :: E.drop 2 = E.set 1 v := fun v => tkd (by omega)
  simp only [Nat.zero_add, Nat.reduceAdd] at b1
  unfold frmV at q1 ⊢
  by_cases h0 : w = [46]
  ·rw [if_pos h0] at q1 ⊢
   cases hb : (nf w) with
   | true =>
    rw [hb] at q1
    refine .inl ⟨rfl, ?_⟩
    conv => lhs; rw [ae]
    simp only [zC]
    simp (maxSteps := 8000000) -implicitDefEqProofs (disch := (refine ab ?_; first | assumption | omega | (simp [go_sem] <;> omega) | with_unfolding_all rfl | decide)) only [go_sem, Nat.reduceAdd, Nat.reduceSub, reduceIte, reduceCtorEq, hz, hd', hg, hk, hgw, e7, Int.reduceBEq, b1, t1, q1, Bool.not_true]
    try rfl
   | false =>
    rw [hb] at q1
    refine .inr ⟨rfl, ?_⟩
    rw [ae]
    simp only [zC]
    simp (maxSteps := 8000000) -implicitDefEqProofs (disch := (refine ab ?_; first | assumption | omega | (simp [go_sem] <;> omega) | with_unfolding_all rfl | decide)) only [go_sem, Nat.reduceAdd, Nat.reduceSub, reduceIte, reduceCtorEq, hz, hd', hg, hk, hgw, e7, Int.reduceBEq, b1, t1, q1, Bool.not_false]
    exact ⟨_, _, ⟨rfl, rfl⟩, rfl, rfl⟩
  ·rw [if_neg h0] at q1 ⊢
   cases hb : (nf w) with
   | true =>
    rw [hb] at q1
    refine .inl ⟨rfl, ?_⟩
    conv => lhs; rw [ae]
    simp only [zC]
    simp (maxSteps := 8000000) -implicitDefEqProofs (disch := (refine ab ?_; first | assumption | omega | (simp [go_sem] <;> omega) | with_unfolding_all rfl | decide)) only [go_sem, Nat.reduceAdd, Nat.reduceSub, reduceIte, reduceCtorEq, hz, hd', hg, hk, hgw, e7, Int.reduceBEq, b1, t1, q1, Bool.not_true]
    try rfl
   | false =>
    rw [hb] at q1
    refine .inr ⟨rfl, ?_⟩
    rw [ae]
    simp only [zC]
    simp (maxSteps := 8000000) -implicitDefEqProofs (disch := (refine ab ?_; first | assumption | omega | (simp [go_sem] <;> omega) | with_unfolding_all rfl | decide)) only [go_sem, Nat.reduceAdd, Nat.reduceSub, reduceIte, reduceCtorEq, hz, hd', hg, hk, hgw, e7, Int.reduceBEq, b1, t1, q1, Bool.not_false]
    exact ⟨_, _, ⟨rfl, rfl⟩, rfl, rfl⟩
 ·have hk : ((UInt8.toNat 115 : Nat) : Int) = 115 := rfl
  rw [show okR (low 115) w = (nf w) from rfl, show setR E (low 115) w = E.set 9 (frmV w) from rfl]
  have b1 := b 9 (by omega)
  have t1 : ∀ v : AV, E.take 9 ++ v :: E.drop 10 = E.set 9 v := fun v => tkd (by omega)
  simp only [Nat.zero_add, Nat.reduceAdd] at b1
  unfold frmV at q1 ⊢
  by_cases h0 : w = [46]
  ·rw [if_pos h0] at q1 ⊢
   cases hb : (nf w) with
   | true =>
    rw [hb] at q1
    refine .inl ⟨rfl, ?_⟩
    conv => lhs; rw [ae]
    simp only [zC]
    simp (maxSteps := 8000000) -implicitDefEqProofs (disch := (refine ab ?_; first | assumption | omega | (simp [go_sem] <;> omega) | with_unfolding_all rfl | decide)) only [go_sem, Nat.reduceAdd, Nat.reduceSub, reduceIte, reduceCtorEq, hz, hd', hg, hk, hgw, e7, Int.reduceBEq, b1, t1, q1, Bool.not_true]
    try rfl
   | false =>
    rw [hb] at q1
    refine .inr ⟨rfl, ?_⟩
    rw [ae]
    simp only [zC]
    simp (maxSteps := 8000000) -implicitDefEqProofs (disch := (refine ab ?_; first | assumption | omega | (simp [go_sem] <;> omega) | with_unfolding_all rfl | decide)) only [go_sem, Nat.reduceAdd, Nat.reduceSub, reduceIte, reduceCtorEq, hz, hd', hg, hk, hgw, e7, Int.reduceBEq, b1, t1, q1, Bool.not_false]
    exact ⟨_, _, ⟨rfl, rfl⟩, rfl, rfl⟩
  ·rw [if_neg h0] at q1 ⊢
   cases hb : (nf w) with
   | true =>
    rw [hb] at q1
    refine .inl ⟨rfl, ?_⟩
    conv => lhs; rw [ae]
    simp only [zC]
    simp (maxSteps := 8000000) -implicitDefEqProofs (disch := (refine ab ?_; first | assumption | omega | (simp [go_sem] <;> omega) | with_unfolding_all rfl | decide)) only [go_sem, Nat.reduceAdd, Nat.reduceSub, reduceIte, reduceCtorEq, hz, hd', hg, hk, hgw, e7, Int.reduceBEq, b1, t1, q1, Bool.not_true]
    try rfl
   | false =>
    rw [hb] at q1
    refine .inr ⟨rfl, ?_⟩
    rw [ae]
    simp only [zC]
    simp (maxSteps := 8000000) -implicitDefEqProofs (disch := (refine ab ?_; first | assumption | omega | (simp [go_sem] <;> omega) | with_unfolding_all rfl | decide)) only [go_sem, Nat.reduceAdd, Nat.reduceSub, reduceIte, reduceCtorEq, hz, hd', hg, hk, hgw, e7, Int.reduceBEq, b1, t1, q1, Bool.not_false]
    exact ⟨_, _, ⟨rfl, rfl⟩, rfl, rfl⟩
 ·have hk : ((UInt8.toNat 108 : Nat) : Int) = 108 := rfl
  rw [show okR (low 108) w = ((labP w).2) from rfl, show setR E (low 108) w = E.set 2 (ow ((labP w).1.map encE)) from rfl]
  have b1 := b 2 (by omega)
  have t1 : ∀ v : AV, E.take 2 ++ v :: E.drop 3 = E.set 2 v := fun v => tkd (by omega)
  simp only [Nat.zero_add, Nat.reduceAdd] at b1
  cases hb : ((labP w).2) with
  | true =>
   rw [hb] at q2
   refine .inl ⟨rfl, ?_⟩
   conv => lhs; rw [ae]
   simp only [zC]
   simp (maxSteps := 8000000) -implicitDefEqProofs (disch := (refine ab ?_; first | assumption | omega | (simp [go_sem] <;> omega) | with_unfolding_all rfl | decide)) only [go_sem, Nat.reduceAdd, Nat.reduceSub, reduceIte, reduceCtorEq, hz, hd', hg, hk, hgw, e7, Int.reduceBEq, b1, t1, q2, Bool.not_true]
   try rfl
  | false =>
   rw [hb] at q2
   refine .inr ⟨rfl, ?_⟩
   rw [ae]
   simp only [zC]
   simp (maxSteps := 8000000) -implicitDefEqProofs (disch := (refine ab ?_; first | assumption | omega | (simp [go_sem] <;> omega) | with_unfolding_all rfl | decide)) only [go_sem, Nat.reduceAdd, Nat.reduceSub, reduceIte, reduceCtorEq, hz, hd', hg, hk, hgw, e7, Int.reduceBEq, b1, t1, q2, Bool.not_false]
   exact ⟨_, _, ⟨rfl, rfl⟩, rfl, rfl⟩
 ·have hk : ((UInt8.toNat 101 : Nat) : Int) = 101 := rfl
  rw [show okR (low 101) w = ((labP w).2) from rfl, show setR E (low 101) w = E.set 3 (ow ((labP w).1.map encE)) from rfl]
  have b1 := b 3 (by omega)
  have t1 : ∀ v : AV, E.take 3 ++ v :: E.drop 4 = E.set 3 v := fun v => tkd (by omega)
  simp only [Nat.zero_add, Nat.reduceAdd] at b1
  cases hb : ((labP w).2) with
  | true =>
   rw [hb] at q2
   refine .inl ⟨rfl, ?_⟩
   conv => lhs; rw [ae]
   simp only [zC]
   simp (maxSteps := 8000000) -implicitDefEqProofs (disch := (refine ab ?_; first | assumption | omega | (simp [go_sem] <;> omega) | with_unfolding_all rfl | decide)) only [go_sem, Nat.reduceAdd, Nat.reduceSub, reduceIte, reduceCtorEq, hz, hd', hg, hk, hgw, e7, Int.reduceBEq, b1, t1, q2, Bool.not_true]
   try rfl
  | false =>
   rw [hb] at q2
   refine .inr ⟨rfl, ?_⟩
   rw [ae]
   simp only [zC]
   simp (maxSteps := 8000000) -implicitDefEqProofs (disch := (refine ab ?_; first | assumption | omega | (simp [go_sem] <;> omega) | with_unfolding_all rfl | decide)) only [go_sem, Nat.reduceAdd, Nat.reduceSub, reduceIte, reduceCtorEq, hz, hd', hg, hk, hgw, e7, Int.reduceBEq, b1, t1, q2, Bool.not_false]
   exact ⟨_, _, ⟨rfl, rfl⟩, rfl, rfl⟩
 ·have hk : ((UInt8.toNat 110 : Nat) : Int) = 110 := rfl
  rw [show okR (low 110) w = ((numR w).2) from rfl, show setR E (low 110) w = E.set 5 (.int .i64 (numR w).1) from rfl]
  have b1 := b 5 (by omega)
  have t1 : ∀ v : AV, E.take 5 ++ v :: E.drop 6 = E.set 5 v := fun v => tkd (by omega)
  simp only [Nat.zero_add, Nat.reduceAdd] at b1
  cases hb : ((numR w).2) with
  | true =>
   rw [hb] at q3
   refine .inl ⟨rfl, ?_⟩
   conv => lhs; rw [ae]
   simp only [zC]
   simp (maxSteps := 8000000) -implicitDefEqProofs (disch := (refine ab ?_; first | assumption | omega | (simp [go_sem] <;> omega) | with_unfolding_all rfl | decide)) only [go_sem, Nat.reduceAdd, Nat.reduceSub, reduceIte, reduceCtorEq, hz, hd', hg, hk, hgw, e7, Int.reduceBEq, b1, t1, q3, Bool.not_true]
   try rfl
  | false =>
   rw [hb] at q3
   refine .inr ⟨rfl, ?_⟩
   rw [ae]
   simp only [zC]
   simp (maxSteps := 8000000) -implicitDefEqProofs (disch := (refine ab ?_; first | assumption | omega | (simp [go_sem] <;> omega) | with_unfolding_all rfl | decide)) only [go_sem, Nat.reduceAdd, Nat.reduceSub, reduceIte, reduceCtorEq, hz, hd', hg, hk, hgw, e7, Int.reduceBEq, b1, t1, q3, Bool.not_false]
   exact ⟨_, _, ⟨rfl, rfl⟩, rfl, rfl⟩
 ·have hk : ((UInt8.toNat 100 : Nat) : Int) = 100 := rfl
  rw [show okR (low 100) w = ((numR w).2) from rfl, show setR E (low 100) w = E.set 5 (.int .i64 (numR w).1) from rfl]
  have b1 := b 5 (by omega)
  have t1 : ∀ v : AV, E.take 5 ++ v :: E.drop 6 = E.set 5 v := fun v => tkd (by omega)
  simp only [Nat.zero_add, Nat.reduceAdd] at b1
  cases hb : ((numR w).2) with
  | true =>
   rw [hb] at q3
   refine .inl ⟨rfl, ?_⟩
   conv => lhs; rw [ae]
   simp only [zC]
   simp (maxSteps := 8000000) -implicitDefEqProofs (disch := (refine ab ?_; first | assumption | omega | (simp [go_sem] <;> omega) | with_unfolding_all rfl | decide)) only [go_sem, Nat.reduceAdd, Nat.reduceSub, reduceIte, reduceCtorEq, hz, hd', hg, hk, hgw, e7, Int.reduceBEq, b1, t1, q3, Bool.not_true]
   try rfl
  | false =>
   rw [hb] at q3
   refine .inr ⟨rfl, ?_⟩
   rw [ae]
   simp only [zC]
   simp (maxSteps := 8000000) -implicitDefEqProofs (disch := (refine ab ?_; first | assumption | omega | (simp [go_sem] <;> omega) | with_unfolding_all rfl | decide)) only [go_sem, Nat.reduceAdd, Nat.reduceSub, reduceIte, reduceCtorEq, hz, hd', hg, hk, hgw, e7, Int.reduceBEq, b1, t1, q3, Bool.not_false]
   exact ⟨_, _, ⟨rfl, rfl⟩, rfl, rfl⟩
 ·have hk : ((UInt8.toNat 109 : Nat) : Int) = 109 := rfl
  rw [show okR (low 109) w = ((numR w).2) from rfl, show setR E (low 109) w = E.set 6 (.int .i64 (numR w).1) from rfl]
  have b1 := b 6 (by omega)
  have t1 : ∀ v : AV, E.take 6 ++ v :: E.drop 7 = E.set 6 v := fun v => tkd (by omega)
  simp only [Nat.zero_add, Nat.reduceAdd] at b1
  cases hb : ((numR w).2) with
  | true =>
   rw [hb] at q3
   refine .inl ⟨rfl, ?_⟩
   conv => lhs; rw [ae]
   simp only [zC]
   simp (maxSteps := 8000000) -implicitDefEqProofs (disch := (refine ab ?_; first | assumption | omega | (simp [go_sem] <;> omega) | with_unfolding_all rfl | decide)) only [go_sem, Nat.reduceAdd, Nat.reduceSub, reduceIte, reduceCtorEq, hz, hd', hg, hk, hgw, e7, Int.reduceBEq, b1, t1, q3, Bool.not_true]
   try rfl
  | false =>
   rw [hb] at q3
   refine .inr ⟨rfl, ?_⟩
   rw [ae]
   simp only [zC]
   simp (maxSteps := 8000000) -implicitDefEqProofs (disch := (refine ab ?_; first | assumption | omega | (simp [go_sem] <;> omega) | with_unfolding_all rfl | decide)) only [go_sem, Nat.reduceAdd, Nat.reduceSub, reduceIte, reduceCtorEq, hz, hd', hg, hk, hgw, e7, Int.reduceBEq, b1, t1, q3, Bool.not_false]
   exact ⟨_, _, ⟨rfl, rfl⟩, rfl, rfl⟩
 ·have hk : ((UInt8.toNat 111 : Nat) : Int) = 111 := rfl
  rw [show okR (low 111) w = ((ownP w).2) from rfl, show setR E (low 111) w = E.set 4 (ow ((ownP w).1.map encT)) from rfl]
  have b1 := b 4 (by omega)
  have t1 : ∀ v : AV, E.take 4 ++ v :: E.drop 5 = E.set 4 v := fun v => tkd (by omega)
  simp only [Nat.zero_add, Nat.reduceAdd] at b1
  cases hb : ((ownP w).2) with
  | true =>
   rw [hb] at q4
   refine .inl ⟨rfl, ?_⟩
   conv => lhs; rw [ae]
   simp only [zC]
   simp (maxSteps := 8000000) -implicitDefEqProofs (disch := (refine ab ?_; first | assumption | omega | (simp [go_sem] <;> omega) | with_unfolding_all rfl | decide)) only [go_sem, Nat.reduceAdd, Nat.reduceSub, reduceIte, reduceCtorEq, hz, hd', hg, hk, hgw, e7, Int.reduceBEq, b1, t1, q4, Bool.not_true]
   try rfl
  | false =>
   rw [hb] at q4
   refine .inr ⟨rfl, ?_⟩
   rw [ae]
   simp only [zC]
   simp (maxSteps := 8000000) -implicitDefEqProofs (disch := (refine ab ?_; first | assumption | omega | (simp [go_sem] <;> omega) | with_unfolding_all rfl | decide)) only [go_sem, Nat.reduceAdd, Nat.reduceSub, reduceIte, reduceCtorEq, hz, hd', hg, hk, hgw, e7, Int.reduceBEq, b1, t1, q4, Bool.not_false]
   exact ⟨_, _, ⟨rfl, rfl⟩, rfl, rfl⟩
 ·have hk : ((UInt8.toNat 116 : Nat) : Int) = 116 := rfl
  rw [show okR (low 116) w = ((mj w).2) from rfl, show setR E (low 116) w = E.set 7 (uQ w) from rfl]
  have b1 := b 7 (by omega)
  have t1 : ∀ v : AV, E.take 7 ++ v :: E.drop 8 = E.set 7 v := fun v => tkd (by omega)
  simp only [Nat.zero_add, Nat.reduceAdd] at b1
  unfold uQ at q5 ⊢
  by_cases h0 : w = [45]
  ·rw [if_pos h0] at q5 ⊢
   cases hb : ((mj w).2) with
   | true =>
    rw [hb] at q5
    refine .inl ⟨rfl, ?_⟩
    conv => lhs; rw [ae]
    simp only [zC]
    simp (maxSteps := 8000000) -implicitDefEqProofs (disch := (refine ab ?_; first | assumption | omega | (simp [go_sem] <;> omega) | with_unfolding_all rfl | decide)) only [go_sem, Nat.reduceAdd, Nat.reduceSub, reduceIte, reduceCtorEq, hz, hd', hg, hk, hgw, e7, Int.reduceBEq, b1, t1, q5, Bool.not_true]
    try rfl
   | false =>
    rw [hb] at q5
    refine .inr ⟨rfl, ?_⟩
    rw [ae]
    simp only [zC]
    simp (maxSteps := 8000000) -implicitDefEqProofs (disch := (refine ab ?_; first | assumption | omega | (simp [go_sem] <;> omega) | with_unfolding_all rfl | decide)) only [go_sem, Nat.reduceAdd, Nat.reduceSub, reduceIte, reduceCtorEq, hz, hd', hg, hk, hgw, e7, Int.reduceBEq, b1, t1, q5, Bool.not_false]
    exact ⟨_, _, ⟨rfl, rfl⟩, rfl, rfl⟩
  ·rw [if_neg h0] at q5 ⊢
   cases hs : blS [] 0 false w with
   | none =>
    rw [hs] at q5
    simp only at q5 ⊢
    cases hb : ((mj w).2) with
    | true =>
     rw [hb] at q5
     refine .inl ⟨rfl, ?_⟩
     conv => lhs; rw [ae]
     simp only [zC]
     simp (maxSteps := 8000000) -implicitDefEqProofs (disch := (refine ab ?_; first | assumption | omega | (simp [go_sem] <;> omega) | with_unfolding_all rfl | decide)) only [go_sem, Nat.reduceAdd, Nat.reduceSub, reduceIte, reduceCtorEq, hz, hd', hg, hk, hgw, e7, Int.reduceBEq, b1, t1, q5, Bool.not_true]
     try rfl
    | false =>
     rw [hb] at q5
     refine .inr ⟨rfl, ?_⟩
     rw [ae]
     simp only [zC]
     simp (maxSteps := 8000000) -implicitDefEqProofs (disch := (refine ab ?_; first | assumption | omega | (simp [go_sem] <;> omega) | with_unfolding_all rfl | decide)) only [go_sem, Nat.reduceAdd, Nat.reduceSub, reduceIte, reduceCtorEq, hz, hd', hg, hk, hgw, e7, Int.reduceBEq, b1, t1, q5, Bool.not_false]
     exact ⟨_, _, ⟨rfl, rfl⟩, rfl, rfl⟩
   | some z =>
    obtain ⟨z1, z2⟩ := z
    rw [hs] at q5
    simp only at q5 ⊢
    cases hb : ((mj w).2) with
    | true =>
     rw [hb] at q5
     refine .inl ⟨rfl, ?_⟩
     conv => lhs; rw [ae]
     simp only [zC]
     simp (maxSteps := 8000000) -implicitDefEqProofs (disch := (refine ab ?_; first | assumption | omega | (simp [go_sem] <;> omega) | with_unfolding_all rfl | decide)) only [go_sem, Nat.reduceAdd, Nat.reduceSub, reduceIte, reduceCtorEq, hz, hd', hg, hk, hgw, e7, Int.reduceBEq, b1, t1, q5, Bool.not_true]
     try rfl
    | false =>
     rw [hb] at q5
     refine .inr ⟨rfl, ?_⟩
     rw [ae]
     simp only [zC]
     simp (maxSteps := 8000000) -implicitDefEqProofs (disch := (refine ab ?_; first | assumption | omega | (simp [go_sem] <;> omega) | with_unfolding_all rfl | decide)) only [go_sem, Nat.reduceAdd, Nat.reduceSub, reduceIte, reduceCtorEq, hz, hd', hg, hk, hgw, e7, Int.reduceBEq, b1, t1, q5, Bool.not_false]
     exact ⟨_, _, ⟨rfl, rfl⟩, rfl, rfl⟩
 ·have hk : ((UInt8.toNat 99 : Nat) : Int) = 99 := rfl
  rw [show okR (low 99) w = (rigC w) from rfl, show setR E (low 99) w = E.set 8 (.str ⟨w.toArray⟩) from rfl]
  have b1 := b 8 (by omega)
  have t1 : ∀ v : AV, E.take 8 ++ v :: E.drop 9 = E.set 8 v := fun v => tkd (by omega)
  simp only [Nat.zero_add, Nat.reduceAdd] at b1
  cases hb : (rigC w) with
  | true =>
   rw [hb] at q6
   refine .inl ⟨rfl, ?_⟩
   conv => lhs; rw [ae]
   simp only [zC]
   simp (maxSteps := 8000000) -implicitDefEqProofs (disch := (refine ab ?_; first | assumption | omega | (simp [go_sem] <;> omega) | with_unfolding_all rfl | decide)) only [go_sem, Nat.reduceAdd, Nat.reduceSub, reduceIte, reduceCtorEq, hz, hd', hg, hk, hgw, e7, Int.reduceBEq, b1, t1, q6, Bool.not_true]
   try rfl
  | false =>
   rw [hb] at q6
   refine .inr ⟨rfl, ?_⟩
   rw [ae]
   simp only [zC]
   simp (maxSteps := 8000000) -implicitDefEqProofs (disch := (refine ab ?_; first | assumption | omega | (simp [go_sem] <;> omega) | with_unfolding_all rfl | decide)) only [go_sem, Nat.reduceAdd, Nat.reduceSub, reduceIte, reduceCtorEq, hz, hd', hg, hk, hgw, e7, Int.reduceBEq, b1, t1, q6, Bool.not_false]
   exact ⟨_, _, ⟨rfl, rfl⟩, rfl, rfl⟩
 ·have hk : ((UInt8.toNat 119 : Nat) : Int) = 119 := rfl
  rw [show okR (low 119) w = (w == [119] || w == [114]) from rfl, show setR E (low 119) w = E.set 10 (.bool (w == [119])) from rfl]
  have b1 := b 10 (by omega)
  have t1 : ∀ v : AV, E.take 10 ++ v :: E.drop 11 = E.set 10 v := fun v => tkd (by omega)
  simp only [Nat.zero_add, Nat.reduceAdd] at b1
  cases hb1 : (w == [119]) with
  | true =>
   refine .inl ⟨rfl, ?_⟩
   conv => lhs; rw [ae]
   simp only [zC]
   simp (maxSteps := 8000000) -implicitDefEqProofs (disch := (refine ab ?_; first | assumption | omega | (simp [go_sem] <;> omega) | with_unfolding_all rfl | decide)) only [go_sem, Nat.reduceAdd, Nat.reduceSub, reduceIte, reduceCtorEq, hz, hd', hg, hk, hgw, e7, Int.reduceBEq, b1, t1, hb1, Bool.not_true]
   try rfl
  | false =>
   cases hb2 : (w == [114]) with
   | true =>
    refine .inl ⟨rfl, ?_⟩
    conv => lhs; rw [ae]
    simp only [zC]
    simp (maxSteps := 8000000) -implicitDefEqProofs (disch := (refine ab ?_; first | assumption | omega | (simp [go_sem] <;> omega) | with_unfolding_all rfl | decide)) only [go_sem, Nat.reduceAdd, Nat.reduceSub, reduceIte, reduceCtorEq, hz, hd', hg, hk, hgw, e7, Int.reduceBEq, b1, t1, hb1, hb2, Bool.not_true]
    try rfl
   | false =>
    refine .inr ⟨rfl, ?_⟩
    rw [ae]
    simp only [zC]
    simp (maxSteps := 8000000) -implicitDefEqProofs (disch := (refine ab ?_; first | assumption | omega | (simp [go_sem] <;> omega) | with_unfolding_all rfl | decide)) only [go_sem, Nat.reduceAdd, Nat.reduceSub, reduceIte, reduceCtorEq, hz, hd', hg, hk, hgw, e7, Int.reduceBEq, b1, t1, hb1, hb2, Bool.not_false]
    exact ⟨_, _, ⟨rfl, rfl⟩, rfl, rfl⟩
def smN (o : Cal) : Prop := o.cat.length ≤ 1000000000 ∧ (∀ x ∈ o.own, x.length ≤ 1000000000) ∧ (∀ e ∈ o.ent, e.1.length ≤ 1000000000) ∧ (∀ e ∈ o.lab, e.1.length ≤ 1000000000)
theorem IJ {o : Cal} {p : UInt8} {w : List UInt8} (h : smN o) (hw : w.length ≤ 1000000000) :
  smN (setP o p w) := by
 have f5 : ∀ e ∈ (labP w).1, e.1.length ≤ 1000000000 := fun e he => by have := ((gf (s7 w)).1 e he).1; omega
 have f6 : ∀ e ∈ (ownP w).1, e.length ≤ 1000000000 := fun e he => by have := ((jA (s8 w)).2 e he).2; omega
 obtain ⟨h1, h2, h3, h4⟩ := h
 unfold setP
 repeat' split
 ·exact ⟨h1, h2, h3, h4⟩
 ·exact ⟨h1, h2, h3, h4⟩
 ·exact ⟨h1, h2, h3, f5⟩
 ·exact ⟨h1, h2, f5, h4⟩
 ·exact ⟨h1, h2, h3, h4⟩
 ·exact ⟨h1, h2, h3, h4⟩
 ·exact ⟨h1, f6, h3, h4⟩
 ·exact ⟨h1, h2, h3, h4⟩
 ·exact ⟨hw, h2, h3, h4⟩
 ·exact ⟨h1, h2, h3, h4⟩
theorem FA : ∀ (ps : List UInt8) (ws : List (List UInt8)) (o : Cal), smN o → (∀ w ∈ ws, w.length ≤ 1000000000) →
  smN (prC o ps ws)
 | [], _, o, h, _ => by simpa [prC] using h
 | _ :: _, [], o, h, _ => by simpa [prC] using h
 | p :: ps, w :: ws, o, h, hw => by
  rw [prC]
  exact FA ps ws _ (IJ h (hw w (by simp))) fun x hx => hw x (List.mem_cons_of_mem _ hx)
theorem Kp {s : List UInt8} (hs : s.length ≤ 1000000000) : (mkC s).cat.length ≤ 1000000000 ∧ (∀ x ∈ (mkC s).own, x.length ≤ 1000000000) ∧ (∀ e ∈ (mkC s).ent, e.1.length ≤ 1000000000) ∧ (∀ e ∈ (mkC s).lab, e.1.length ≤ 1000000000) :=
 FA _ _ _ ⟨by simp [eA], (fun e he => by cases he), (fun e he => by cases he), (fun e he => by cases he)⟩ fun w hw => by
  have := kN (List.mem_of_mem_tail hw); omega
theorem EM {ws : List (List UInt8)} {ps : List UInt8} (hps : ps.length ≤ 6) (hfit : ∀ p ∈ ps, p = 97 ∨ p = 115 ∨ p = 108 ∨ p = 101 ∨ p = 110 ∨ p = 100 ∨ p = 109 ∨ p = 111 ∨ p = 116 ∨ p = 99 ∨ p = 119) (hw : ∀ w ∈ ws, w.length ≤ 90000) (hn : ws.length = ps.length + 1) : ∀ (d i : Nat) (E : List AV) (o : Cal), d + i = ps.length → E.length = 11 → shL E = encC o →
  (nG ((ps.drop i).map low) (ws.drop (i + 1)) = true ∧ ∃ E', den T (.loop br) (bP (.box 0 0) (ow (ws.map encT)) (.box 1 0) (.str ⟨ps.toArray⟩) (.int .i64 i)) [.cells (zC 0), .cells E] = some (.exit 2, jH (.box 0 0) (.box 1 0), [.cells (zC 0), .cells E']) ∧ E'.length = 11 ∧ shL E' = encC (prC o ((ps.drop i).map low) (ws.drop (i + 1)))) ∨
  (nG ((ps.drop i).map low) (ws.drop (i + 1)) = false ∧ ∃ σ E', den T (.loop br) (bP (.box 0 0) (ow (ws.map encT)) (.box 1 0) (.str ⟨ps.toArray⟩) (.int .i64 i)) [.cells (zC 0), .cells E] = some (.ret, σ, [.cells (zC 0), .cells E']) ∧ σ.getD 2 aa = .box 0 0 ∧ σ.getD 3 aa = .int .i64 10) := by
 have hz : (⟨ps.toArray⟩ : ByteArray).size = ps.length := by simp [ByteArray.size]
 intro d
 induction d with
 | zero =>
  intro i E o hd hE hs
  have hd' : decide ((i : Int) < ps.length) = false := decide_eq_false (by omega)
  rw [List.drop_eq_nil_of_le (show ps.length ≤ i by omega), List.map_nil]
  refine .inl ⟨by simp [nG], E, ?_, hE, by simpa [prC] using hs⟩
  rw [ae]
  simp -implicitDefEqProofs (disch := (refine ab ?_; first | assumption | omega | (simp [go_sem] <;> omega) | with_unfolding_all rfl | decide)) only [go_sem, Nat.reduceAdd, Nat.reduceSub, reduceIte, reduceCtorEq, hz, hd']
 | succ d ih =>
  intro i E o hd hE hs
  have hib : i < ps.length := by omega
  have hjb : i + 1 < ws.length := by omega
  have hdr : ps.drop i = ps[i] :: ps.drop (i + 1) := List.drop_eq_getElem_cons hib
  have hdw : ws.drop (i + 1) = ws[i + 1] :: ws.drop (i + 1 + 1) := List.drop_eq_getElem_cons hjb
  have hp := hfit _ (List.getElem_mem hib)
  have hst := EL (E := E) (ws := ws) (ps := ps) (i := i) hE (show ps[i]? = some ps[i] by simp [hib]) hps (show ws[i + 1]? = some ws[i + 1] by simp [hjb]) (hw _ (List.getElem_mem hjb)) hp
  rw [hdr, hdw, List.map_cons, nG, prC]
  generalize ps[i] = p at *
  generalize ws[i + 1] = w at *
  rcases hst with ⟨h1, h2⟩ | ⟨h1, h2⟩
  ·have ih' := ih (i + 1) (setR E (low p) w) (setP o (low p) w) (by omega) (by rw [EK]; exact hE) (IH hs (II hp) h1)
   rw [h1, Bool.true_and, h2]
   exact ih'
  ·rw [h1, Bool.false_and]
   exact .inr ⟨rfl, h2⟩
theorem y5 {s : List UInt8} (hs : s.length ≤ 90000) : run T 15 [.str ⟨s.toArray⟩] [] = some (.tup [.agg (encC (refT s).1), .int .i64 (refT s).2], []) := by
 have q1 := nd (s := s) (c := 32) (by omega)
 rw [show ((UInt8.toNat 32 : Nat) : Int) = 32 from rfl] at q1
 obtain ⟨x, xs, hp⟩ := lS 32 s
 have hx : ((pcs 32 s).map encT)[(0 : Int).toNat]? = some [.str ⟨x.toArray⟩] := by rw [hp]; rfl
 have q2 := IG (X := .cells (zC 0)) hx 21 0 (-1) rfl
 rw [Km] at q2
 have hop : ixF 0 nmL x = opW s := by unfold opW; rw [hp]; rfl
 rw [hop] at q2
 simp only [show ((0 : Nat) : Int) = 0 from rfl] at q2
 have q3 := rl (op := opW s)
 have hwl : ∀ w ∈ pcs 32 s, w.length ≤ 90000 := fun w hw => by have := kN hw; omega
 obtain ⟨f1, f2⟩ := Kn (opW s)
 have hfl : (fS (opW s)).length = (pS (opW s)).length := by rw [Ko, List.length_map]
 rw [af T_15]
 unfold refT
 simp only [zC] at q2
 rcases wc s with ho | ho
 ·have d1 : decide (opW s < 0) = true := decide_eq_true (by omega)
  rw [if_pos (by omega)]
  simp only [eA, encC, List.map_nil]
  generalize pcs 32 s = ws at *
  generalize opW s = op at *
  simp (maxSteps := 4000000) -implicitDefEqProofs (disch := (refine ab ?_; first | assumption | omega | (simp [go_sem] <;> omega) | with_unfolding_all rfl | decide)) only [go_sem, Nat.reduceAdd, Nat.reduceSub, reduceIte, reduceCtorEq, aQ, q1, q2, d1]
 ·have d1 : decide (opW s < 0) = false := decide_eq_false (by omega)
  rw [if_neg (by omega), hfl]
  have hz : (⟨(pS (opW s)).toArray⟩ : ByteArray).size = (pS (opW s)).length := by simp [ByteArray.size]
  have e7 := incP (n := (pS (opW s)).length) (by omega)
  have hml : ((pcs 32 s).map encT).length = (pcs 32 s).length := List.length_map ..
  by_cases hn : (pcs 32 s).length = (pS (opW s)).length + 1
  ·have n1 : (((pcs 32 s).length : Int) != (((pS (opW s)).length + 1 : Nat) : Int)) = false := by rw [hn]; simp
   have hl := EM f1 f2 hwl hn (pS (opW s)).length 0 (zC (opW s)) (eA (opW s)) (by omega) rfl (Ly _)
   simp only [show ((0 : Nat) : Int) = 0 from rfl, List.drop_zero, Nat.zero_add, List.drop_one, ← Ko] at hl
   rw [show prC (eA (opW s)) (fS (opW s)) (pcs 32 s).tail = mkC s from rfl] at hl
   rcases hl with ⟨h1, E', h2, h3, h4⟩ | ⟨h1, σ, E', h2, h3, h4⟩
   ·have okc : okC (mkC s) := Ci (by omega)
    have hsm : (mkC s).cat.length ≤ 1000000000 ∧ (∀ x ∈ (mkC s).own, x.length ≤ 1000000000) ∧ (∀ e ∈ (mkC s).ent, e.1.length ≤ 1000000000) ∧ (∀ e ∈ (mkC s).lab, e.1.length ≤ 1000000000) := Kp (by omega)
    have q4 := y4 okc hsm.1 hsm.2.1 hsm.2.2.1 hsm.2.2.2
    rw [← IE] at q4
    have b1 : Nat.ble (0 + 11) E'.length = true := by rw [h3]; rfl
    have t1 : E'.take 11 = E' := List.take_of_length_le (by omega)
    simp only [zC] at h2
    clear okc hsm
    cases hr : eN (mkC s) with
    | true =>
     rw [hr] at q4
     rw [if_pos ⟨hn, h1, rfl⟩]
     generalize mkC s = c at *
     generalize pcs 32 s = ws at *
     generalize pS (opW s) = ps at *
     generalize opW s = op at *
     clear hn hr h1
     obtain ⟨a1, a2, a3, a4, a5, a6, a7, a8, a9, a10, a11⟩ := c
     simp only [encC] at q4 h4 ⊢
     simp (maxSteps := 4000000) -implicitDefEqProofs (disch := (refine ab ?_; first | assumption | omega | (simp [go_sem] <;> omega) | with_unfolding_all rfl | decide)) only [go_sem, Nat.reduceAdd, Nat.reduceSub, reduceIte, reduceCtorEq, aQ, q1, q2, d1, q3, hz, e7, hml, n1, h2, b1, t1, h4, q4, Bool.not_true]
    | false =>
     rw [hr] at q4
     rw [if_neg (by simp)]
     simp only [eA, encC, List.map_nil]
     generalize mkC s = c at *
     generalize pcs 32 s = ws at *
     generalize pS (opW s) = ps at *
     generalize opW s = op at *
     clear hn hr h1
     obtain ⟨a1, a2, a3, a4, a5, a6, a7, a8, a9, a10, a11⟩ := c
     simp only [encC] at q4 h4 ⊢
     simp (maxSteps := 4000000) -implicitDefEqProofs (disch := (refine ab ?_; first | assumption | omega | (simp [go_sem] <;> omega) | with_unfolding_all rfl | decide)) only [go_sem, Nat.reduceAdd, Nat.reduceSub, reduceIte, reduceCtorEq, aQ, q1, q2, d1, q3, hz, e7, hml, n1, h2, b1, t1, h4, q4, Bool.not_false]
   ·rw [if_neg (by rw [h1]; simp)]
    simp only [zC] at h2
    simp only [eA, encC, List.map_nil]
    generalize pcs 32 s = ws at *
    generalize pS (opW s) = ps at *
    generalize opW s = op at *
    simp (maxSteps := 4000000) -implicitDefEqProofs (disch := (refine ab ?_; first | assumption | omega | (simp [go_sem] <;> omega) | with_unfolding_all rfl | decide)) only [go_sem, Nat.reduceAdd, Nat.reduceSub, reduceIte, reduceCtorEq, aQ, q1, q2, d1, q3, hz, e7, hml, n1, h2, h3, h4]
  ·have n1 : (((pcs 32 s).length : Int) != (((pS (opW s)).length + 1 : Nat) : Int)) = true := by rw [bne_iff_ne]; omega
   rw [if_neg (by simp [hn])]
   simp only [eA, encC, List.map_nil]
   generalize pcs 32 s = ws at *
   generalize pS (opW s) = ps at *
   generalize opW s = op at *
   simp (maxSteps := 4000000) -implicitDefEqProofs (disch := (refine ab ?_; first | assumption | omega | (simp [go_sem] <;> omega) | with_unfolding_all rfl | decide)) only [go_sem, Nat.reduceAdd, Nat.reduceSub, reduceIte, reduceCtorEq, aQ, q1, q2, d1, q3, hz, e7, hml, n1]
end Go.Proofs.YtibchilpaaiecaaGreatDoor.L
