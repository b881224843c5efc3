/- Replies compared, the program's way; a law's guard; reading a reply's numbers. -/
import Derived.Test.YtibchilpaaiecaaGreatDoorL103
set_option linter.all false
set_option maxRecDepth 100000
namespace Go.Proofs.YtibchilpaaiecaaGreatDoor.L
open Go.Proofs.YtibchilpaaiecaaGreatDoor.M Go.Proofs.YtibchilpaaiecaaGreatDoor.F Go.Proofs
theorem Kc (a b : List UInt8) : ((⟨a.toArray⟩ : ByteArray) == ⟨b.toArray⟩) = decide (a = b) := by
 have h : ((⟨a.toArray⟩ : ByteArray) == ⟨b.toArray⟩) = (a.toArray == b.toArray) := rfl
 rw [h]
 by_cases h : a = b
 ·subst h; simp
 ·simp [h]
theorem mZ {α : Type} [DecidableEq α] (x y : α) : (x == y) = decide (x = y) := by by_cases h : x = y <;> simp [h]
theorem lbU (x y : List UInt8) : (x == y) = decide (x = y) := by by_cases h : x = y <;> simp [h]
theorem incN {n : Nat} (h : n ≤ 9223372036854775806) : IntKind.i64.wrap ((n : Int) + 1) = ((n + 1 : Nat) : Int) := by rw [w64 (by omega) (by omega)]; rfl
theorem BH (a b : Ent) : eqI (encE a) (encE b) [(0, .string), (1, .int .i64)] = some (decide (a = b)) := by
 obtain ⟨a1, a2⟩ := a
 obtain ⟨b1, b2⟩ := b
 show (match (some ((⟨a1.toArray⟩ : ByteArray) == ⟨b1.toArray⟩) : Option Bool) with | some true => (match (some (a2 == b2) : Option Bool) with | some true => some true | some false => some false | none => none) | some false => some false | none => none) = _
 rw [Kc, mZ]
 by_cases h1 : a1 = b1 <;> by_cases h2 : a2 = b2 <;> simp [h1, h2]
theorem xy {α : Type} [DecidableEq α] {a b : List α} {i : Nat} (ha : i < a.length) (hb : i < b.length) : decide (a.drop i = b.drop i) = (decide (a[i] = b[i]) && decide (a.drop (i + 1) = b.drop (i + 1))) := by
 have h : (a.drop i = b.drop i) ↔ (a[i] = b[i] ∧ a.drop (i + 1) = b.drop (i + 1)) := by
  rw [List.drop_eq_getElem_cons ha, List.drop_eq_getElem_cons hb, List.cons.injEq]
 rw [decide_eq_decide.2 h, Bool.decide_and]
theorem HK {a b : List UInt8} {h : AH} : run T 49 [.sl .sh (a.map encB), .sl .sh (b.map encB)] h = some (.bool (decide (a = b)), h) := by
 rw [af T_49]
 simp -implicitDefEqProofs (disch := (refine ab ?_; first | assumption | omega | (simp [go_sem] <;> omega) | with_unfolding_all rfl | decide)) only [go_sem, Nat.reduceAdd, Nat.reduceSub, reduceIte, reduceCtorEq, gZ, lbU a b]
theorem BI {a b : List Ent} {h : AH} (hl : a.length = b.length) (hs : a.length ≤ 1000000000) : ∀ (d i : Nat), d + i = a.length →
  (decide (a.drop i = b.drop i) = true ∧ den T (.loop av) (aL (.sl .sh (a.map encE)) (.sl .sh (b.map encE)) (.int .i64 a.length) (.int .i64 i)) h = some (.exit 0, eX, h)) ∨
  (decide (a.drop i = b.drop i) = false ∧ ∃ σ, den T (.loop av) (aL (.sl .sh (a.map encE)) (.sl .sh (b.map encE)) (.int .i64 a.length) (.int .i64 i)) h = some (.ret, σ, h) ∧ σ.getD 4 aa = .bool false) := by
 intro d
 induction d with
 | zero =>
  intro i hd
  have hd' : decide ((i : Int) < a.length) = false := decide_eq_false (by omega)
  refine .inl ⟨by rw [List.drop_eq_nil_of_le (by omega), List.drop_eq_nil_of_le (by omega)]; rfl, ?_⟩
  rw [ae]
  simp -implicitDefEqProofs (disch := (refine ab ?_; first | assumption | omega | (simp [go_sem] <;> omega) | with_unfolding_all rfl | decide)) only [go_sem, Nat.reduceAdd, Nat.reduceSub, reduceIte, reduceCtorEq, hd']
 | succ d ih =>
  intro i hd
  have hia : i < a.length := by omega
  have hib : i < b.length := by omega
  have hd' : decide ((i : Int) < a.length) = true := decide_eq_true (by omega)
  have ga : (a.map encE)[(i : Int).toNat]? = some (encE a[i]) := by simp [hia]
  have gb : (b.map encE)[(i : Int).toNat]? = some (encE b[i]) := by simp [hib]
  have e7 := incN (n := i) (by omega)
  have ih' := ih (i + 1) (by omega)
  have hq := BH a[i] b[i]
  have hdr := xy hia hib
  generalize a[i] = x at *
  generalize b[i] = y at *
  rw [hdr]
  by_cases hxy : x = y
  ·have hx : decide (x = y) = true := decide_eq_true hxy
   rw [hx] at hq
   have hstep : den T (.loop av) (aL (.sl .sh (a.map encE)) (.sl .sh (b.map encE)) (.int .i64 a.length) (.int .i64 i)) h = den T (.loop av) (aL (.sl .sh (a.map encE)) (.sl .sh (b.map encE)) (.int .i64 a.length) (.int .i64 (i + 1 : Nat))) h := by
    simp only [encE] at ga gb hq
    rw [ae]
    simp (maxSteps := 2000000) -implicitDefEqProofs (disch := (refine ab ?_; first | assumption | omega | (simp [go_sem] <;> omega) | with_unfolding_all rfl | decide)) only [go_sem, Nat.reduceAdd, Nat.reduceSub, reduceIte, reduceCtorEq, hd', ga, gb, hq, e7]
    try rfl
   rw [hstep, hx, Bool.true_and]
   exact ih'
  ·have hx : decide (x = y) = false := decide_eq_false hxy
   rw [hx] at hq
   refine .inr ⟨by rw [hx, Bool.false_and], ?_⟩
   simp only [encE] at ga gb hq
   rw [ae]
   simp (maxSteps := 2000000) -implicitDefEqProofs (disch := (refine ab ?_; first | assumption | omega | (simp [go_sem] <;> omega) | with_unfolding_all rfl | decide)) only [go_sem, Nat.reduceAdd, Nat.reduceSub, reduceIte, reduceCtorEq, hd', ga, gb, hq]
   exact ⟨_, rfl, rfl⟩
theorem DQ {a b : List Ent} {h : AH} (ha : a.length ≤ 1000000000) : run T 89 [.sl .sh (a.map encE), .sl .sh (b.map encE)] h = some (.bool (decide (a = b)), h) := by
 rw [af T_89]
 by_cases hl : a.length = b.length
 ·have hq : ((a.length : Int) != (b.length : Int)) = false := by simp [hl]
  rcases BI (h := h) hl ha a.length 0 (by omega) with ⟨h1, h2⟩ | ⟨h1, σ, h2, h3⟩
  ·simp only [show ((0 : Nat) : Int) = 0 from rfl, List.drop_zero] at h1 h2
   simp (maxSteps := 2000000) -implicitDefEqProofs (disch := (refine ab ?_; first | assumption | omega | (simp [go_sem] <;> omega) | with_unfolding_all rfl | decide)) only [go_sem, Nat.reduceAdd, Nat.reduceSub, reduceIte, reduceCtorEq, aq, List.length_map, hq, h2, h1]
  ·simp only [show ((0 : Nat) : Int) = 0 from rfl, List.drop_zero] at h1 h2
   simp (maxSteps := 2000000) -implicitDefEqProofs (disch := (refine ab ?_; first | assumption | omega | (simp [go_sem] <;> omega) | with_unfolding_all rfl | decide)) only [go_sem, Nat.reduceAdd, Nat.reduceSub, reduceIte, reduceCtorEq, aq, List.length_map, hq, h2, h1, h3]
 ·have hq : ((a.length : Int) != (b.length : Int)) = true := by simp; omega
  have hne : decide (a = b) = false := decide_eq_false fun e => hl (by rw [e])
  simp (maxSteps := 2000000) -implicitDefEqProofs (disch := (refine ab ?_; first | assumption | omega | (simp [go_sem] <;> omega) | with_unfolding_all rfl | decide)) only [go_sem, Nat.reduceAdd, Nat.reduceSub, reduceIte, reduceCtorEq, aq, List.length_map, hq, hne]
theorem uA {a b : List Ent} {h : AH} (ha : a.length ≤ 1000000000) : run T 47 [.sl .sh (a.map encE), .sl .sh (b.map encE)] h = some (.bool (decide (a = b)), h) := by
 have h1 := fun h => DQ (b := b) (h := h) ha
 rw [af T_47]
 simp -implicitDefEqProofs (disch := (refine ab ?_; first | assumption | omega | (simp [go_sem] <;> omega) | with_unfolding_all rfl | decide)) only [go_sem, Nat.reduceAdd, Nat.reduceSub, reduceIte, reduceCtorEq, iH, h1]
end Go.Proofs.YtibchilpaaiecaaGreatDoor.L
/- ReplyBack: what its function comes to. -/
set_option linter.all false
set_option maxRecDepth 100000
namespace Go.Proofs.YtibchilpaaiecaaGreatDoor.L
open Go.Proofs.YtibchilpaaiecaaGreatDoor.M Go.Proofs.YtibchilpaaiecaaGreatDoor.F Go.Proofs
end Go.Proofs.YtibchilpaaiecaaGreatDoor.L
/- Calls: their parts, what is plain of them, the same ones: the walks. -/
set_option linter.all false
set_option maxRecDepth 100000
set_option maxHeartbeats 32000000
namespace Go.Proofs.YtibchilpaaiecaaGreatDoor.L
open Go.Proofs.YtibchilpaaiecaaGreatDoor.M Go.Proofs.YtibchilpaaiecaaGreatDoor.F Go.Proofs
structure Cal where
 op : Int
 at_ : List Int
 lab : List Ent
 ent : List Ent
 own : List (List UInt8)
 n : Int
 m : Int
 text : List UInt8
 cat : List UInt8
 seg : List Int
 write : Bool
deriving DecidableEq
def encC (c : Cal) : List AV := [.int .i64 c.op, .sl .sh (c.at_.map encI), .sl .sh (c.lab.map encE), .sl .sh (c.ent.map encE), .sl .sh (c.own.map encT), .int .i64 c.n, .int .i64 c.m, .sl .sh (c.text.map encB), .str ⟨c.cat.toArray⟩, .sl .sh (c.seg.map encI), .bool c.write]
def owC (c : Cal) : List AV := [.int .i64 c.op, ow (c.at_.map encI), ow (c.lab.map encE), ow (c.ent.map encE), ow (c.own.map encT), .int .i64 c.n, .int .i64 c.m, ow (c.text.map encB), .str ⟨c.cat.toArray⟩, ow (c.seg.map encI), .bool c.write]
def eA (op : Int) : Cal := ⟨op, [], [], [], [], 0, 0, [], [], [], false⟩
structure okC (c : Cal) : Prop where
 at_ : c.at_.length ≤ 1000000
 lab : c.lab.length ≤ 1000000
 ent : c.ent.length ≤ 1000000
 own : c.own.length ≤ 1000000
 text : c.text.length ≤ 1000000000
 seg : c.seg.length ≤ 1000000
 labS : ∀ e ∈ c.lab, e.1.length ≤ 281474976710656
 entS : ∀ e ∈ c.ent, e.1.length ≤ 281474976710656
 ownS : shS c.own
 catS : c.cat.length ≤ 281474976710656
def pL (op : Int) : List Int :=
 if op = 2 then [0, 1, 2, 3] else if op = 3 then [0, 1, 2] else if op = 4 then [0, 1, 2, 5] else if op = 5 then [0, 1, 2, 4, 5, 3] else
 if op = 6 then [0, 1, 2] else if op = 7 then [0, 2, 3] else if op = 8 then [0, 2, 6] else if op = 9 then [0, 2] else if op = 10 then [0] else
 if op = 11 then [0] else if op = 12 then [0] else if op = 13 then [0, 10] else if op = 14 then [1] else if op = 15 then [0] else if op = 16 then [7] else
 if op = 17 then [0, 2, 8, 9] else if op = 18 then [0, 2] else if op = 19 then [0, 2, 3] else if op = 20 then [0, 2, 6] else []
theorem dS {op : Int} (h : 2 ≤ op ∧ op ≤ 20) : op = 2 ∨ op = 3 ∨ op = 4 ∨ op = 5 ∨ op = 6 ∨ op = 7 ∨ op = 8 ∨ op = 9 ∨ op = 10 ∨ op = 11 ∨ op = 12 ∨ op = 13 ∨ op = 14 ∨ op = 15 ∨ op = 16 ∨ op = 17 ∨ op = 18 ∨ op = 19 ∨ op = 20 := by omega
theorem eqF {a b : Int} (h : a ≠ b) : (a == b) = false := by simpa using h
theorem vU {op : Int} (h : ¬ (2 ≤ op ∧ op ≤ 20)) : pL op = [] := by
 unfold pL
 repeat rw [if_neg (by omega)]
theorem uB {op : Int} : run T 39 [.int .i64 op] [] = some (.sl .ex ((pL op).map encI), []) := by
 by_cases hop : 2 ≤ op ∧ op ≤ 20
 ·rcases dS hop with rfl | rfl | rfl | rfl | rfl | rfl | rfl | rfl | rfl | rfl | rfl | rfl | rfl | rfl | rfl | rfl | rfl | rfl | rfl <;> exact fm (n := 300) (by kernel_rfl)
 ·rw [vU hop, af T_39]
  simp (maxSteps := 4000000) -implicitDefEqProofs (disch := (refine ab ?_; first | assumption | omega | (simp [go_sem] <;> omega) | with_unfolding_all rfl | decide)) only [go_sem, Nat.reduceAdd, Nat.reduceSub, reduceIte, reduceCtorEq, iG, List.map_nil, eqF (show op ≠ 2 by omega), eqF (show op ≠ 3 by omega), eqF (show op ≠ 4 by omega), eqF (show op ≠ 5 by omega), eqF (show op ≠ 6 by omega), eqF (show op ≠ 7 by omega), eqF (show op ≠ 8 by omega), eqF (show op ≠ 9 by omega), eqF (show op ≠ 10 by omega), eqF (show op ≠ 11 by omega), eqF (show op ≠ 12 by omega), eqF (show op ≠ 13 by omega), eqF (show op ≠ 14 by omega), eqF (show op ≠ 15 by omega), eqF (show op ≠ 16 by omega), eqF (show op ≠ 17 by omega), eqF (show op ≠ 18 by omega), eqF (show op ≠ 19 by omega), eqF (show op ≠ 20 by omega)]
theorem pU (op : Int) : (pL op).length ≤ 6 ∧ ∀ p ∈ pL op, 0 ≤ p ∧ p ≤ 10 := by
 by_cases hop : 2 ≤ op ∧ op ≤ 20
 ·rcases dS hop with rfl | rfl | rfl | rfl | rfl | rfl | rfl | rfl | rfl | rfl | rfl | rfl | rfl | rfl | rfl | rfl | rfl | rfl | rfl <;> decide
 ·rw [vU hop]; exact ⟨by simp, fun p hp => by cases hp⟩
theorem nK {p : Int} (h : 0 ≤ p ∧ p ≤ 10) : p = 0 ∨ p = 1 ∨ p = 2 ∨ p = 3 ∨ p = 4 ∨ p = 5 ∨ p = 6 ∨ p = 7 ∨ p = 8 ∨ p = 9 ∨ p = 10 := by omega
theorem BJ {op : Int} {h : AH} : run T 36 [.int .i64 op] h = some (.bool (decide (op ≥ 0) && decide (op ≤ 20)), h) := by
 rw [af T_36]
 cases h0 : decide (op ≥ 0) <;> simp -implicitDefEqProofs (disch := (refine ab ?_; first | assumption | omega | (simp [go_sem] <;> omega) | with_unfolding_all rfl | decide)) only [go_sem, Nat.reduceAdd, Nat.reduceSub, reduceIte, reduceCtorEq, iE, h0, Bool.true_and, Bool.false_and]
theorem xz {n : Int} {h : AH} : run T 83 [.int .i64 n] h = some (.bool (decide (n ≥ 0) && decide (n ≤ 1048576)), h) := by
 rw [af T_83]
 cases h0 : decide (n ≥ 0) <;> simp -implicitDefEqProofs (disch := (refine ab ?_; first | assumption | omega | (simp [go_sem] <;> omega) | with_unfolding_all rfl | decide)) only [go_sem, Nat.reduceAdd, Nat.reduceSub, reduceIte, reduceCtorEq, hP, h0, Bool.true_and, Bool.false_and]
theorem xA {l : List Ent} {h : AH} (hn : l.length ≤ 1000000) : run T 78 [.sl .sh (l.map encE)] h = some (ow (l.map encE), h) := by
 rw [eG T_78]
 show (if szOK 2 (l.map encE) = true ∧ _ then _ else _) = _
 rw [if_pos ⟨Fj, by rw [List.length_map]; omega, by rw [List.length_map]; omega⟩]
theorem DR {l : List (List UInt8)} {h : AH} (hn : l.length ≤ 1000000) : run T 79 [.sl .sh (l.map encT)] h = some (ow (l.map encT), h) := by
 rw [eG T_79]
 show (if szOK 1 (l.map encT) = true ∧ _ then _ else _) = _
 rw [if_pos ⟨Fp, by rw [List.length_map]; omega, by rw [List.length_map]; omega⟩]
def plnS (c o : Cal) (p : Int) : Cal :=
 if p = 0 then { o with at_ := c.at_ } else if p = 1 then { o with lab := c.lab } else if p = 2 then { o with n := c.n } else if p = 3 then { o with m := c.m } else
 if p = 4 then { o with ent := c.ent } else if p = 5 then { o with own := c.own } else if p = 6 then { o with text := c.text } else if p = 7 then { o with cat := c.cat } else
 if p = 8 then { o with seg := c.seg } else if p = 9 then { o with write := c.write } else if p = 10 then { o with n := c.n } else o
def HpC (c o : Cal) (x : Bx) : AH := [.cells (encC c), x, .cells (owC o)]
theorem yS {c : Cal} {ps : List Int} {x : Bx} (hc : okC c) (hn : ps.length ≤ 1000) (hr : ∀ p ∈ ps, 0 ≤ p ∧ p ≤ 10) : ∀ (d i : Nat) (o : Cal), d + i = ps.length →
  den T (.loop lQ) (qi (.box 0 0) (.box 1 0) (.box 2 0) (.sl .ex (ps.map encI)) (.int .i64 ps.length) (.int .i64 i)) (HpC c o x) = some (.exit 0, qj (.box 1 0) (.box 2 0), HpC c ((ps.drop i).foldl (plnS c) o) x) := by
 intro d
 induction d with
 | zero =>
  intro i o hd
  have hd' : decide ((i : Int) < ps.length) = false := decide_eq_false (by omega)
  rw [List.drop_eq_nil_of_le (by omega), List.foldl_nil]
  rw [ae]
  simp -implicitDefEqProofs (disch := (refine ab ?_; first | assumption | omega | (simp [go_sem] <;> omega) | with_unfolding_all rfl | decide)) only [go_sem, Nat.reduceAdd, Nat.reduceSub, reduceIte, reduceCtorEq, hd']
 | succ d ih =>
  intro i o hd
  have hib : i < ps.length := by omega
  have hd' : decide ((i : Int) < ps.length) = true := decide_eq_true (by omega)
  have hge : (ps.map encI)[(i : Int).toNat]? = some (encI ps[i]) := by simp [hib]
  have hdr : ps.drop i = ps[i] :: ps.drop (i + 1) := List.drop_eq_getElem_cons hib
  have e7 := incP (n := i) (by omega)
  have hp := hr ps[i] (by simp)
  rw [hdr, List.foldl_cons]
  have ih' := ih (i + 1) (plnS c o ps[i]) (by omega)
  generalize ps[i] = p at *
  simp only [encI] at hge
  have q1 := xo (l := c.at_) (h := []) (by have := hc.at_; omega)
  have q2 := xA (l := c.lab) (h := []) hc.lab
  have q3 := xA (l := c.ent) (h := []) hc.ent
  have q4 := DR (l := c.own) (h := []) hc.own
  have q5 := Bd (l := c.text) (h := []) (by have := hc.text; omega)
  have q6 := xo (l := c.seg) (h := []) (by have := hc.seg; omega)
  obtain ⟨o1, o2, o3, o4, o5, o6, o7, o8, o9, o10, o11⟩ := o
  obtain ⟨c1, c2, c3, c4, c5, c6, c7, c8, c9, c10, c11⟩ := c
  clear hc ih hr hdr
  simp only [HpC, encC, owC] at ih' q1 q2 q3 q4 q5 q6 ⊢
  rcases nK hp with rfl | rfl | rfl | rfl | rfl | rfl | rfl | rfl | rfl | rfl | rfl
  all_goals
   simp only [plnS, Int.reduceEq, if_true, if_false, reduceIte] at ih'
   rw [ae]
   simp (maxSteps := 2000000) -implicitDefEqProofs (disch := (refine ab ?_; first | assumption | omega | (simp [go_sem] <;> omega) | with_unfolding_all rfl | decide)) only [go_sem, Nat.reduceAdd, Nat.reduceSub, reduceIte, reduceCtorEq, hd', hge, q1, q2, q3, q4, q5, q6, e7, Int.reduceBEq]
   exact ih'
def plC (c : Cal) : Cal := (pL c.op).foldl (plnS c) (eA c.op)
theorem BK {c : Cal} (hc : okC c) : run T 37 [.agg (encC c)] [] = some (.agg (encC (plC c)), []) := by
 have h1 := uB (op := c.op)
 have h2 := yS (c := c) (ps := pL c.op) (x := .cells (owC (eA 0))) hc (by have := (pU c.op).1; omega) (pU c.op).2 (pL c.op).length 0 (eA c.op) (by omega)
 simp only [show ((0 : Nat) : Int) = 0 from rfl, List.drop_zero] at h2
 rw [af T_37]
 unfold plC
 generalize hq : (pL c.op).foldl (plnS c) (eA c.op) = q at *
 clear hq hc
 obtain ⟨c1, c2, c3, c4, c5, c6, c7, c8, c9, c10, c11⟩ := c
 simp only [HpC, encC, owC, eA, List.map_nil] at h1 h2 ⊢
 simp (maxSteps := 4000000) -implicitDefEqProofs (disch := (refine ab ?_; first | assumption | omega | (simp [go_sem] <;> omega) | with_unfolding_all rfl | decide)) only [go_sem, Nat.reduceAdd, Nat.reduceSub, reduceIte, reduceCtorEq, iF, h1, h2, List.length_map]
theorem DS {a b : Cal} (ha : okC a) : run T 14 [.agg (encC a), .agg (encC b)] [] = some (.bool (decide (a = b)), []) := by
 have q1 := xn (a := a.at_) (b := b.at_) (h := []) (by have := ha.at_; omega)
 have q2 := uA (a := a.lab) (b := b.lab) (h := []) (by have := ha.lab; omega)
 have q3 := uA (a := a.ent) (b := b.ent) (h := []) (by have := ha.ent; omega)
 have q4 := BG (a := a.own) (b := b.own) (h := []) (by have := ha.own; omega)
 have q5 := xn (a := a.seg) (b := b.seg) (h := []) (by have := ha.seg; omega)
 have q6 := HK (a := a.text) (b := b.text) (h := [])
 have q7 := mZ a.op b.op
 have q8 := mZ a.n b.n
 have q9 := mZ a.m b.m
 have q10 := lbU a.cat b.cat
 have q11 := mZ a.write b.write
 have he : decide (a = b) = (decide (a.at_ = b.at_) && (decide (a.lab = b.lab) && (decide (a.ent = b.ent) && (decide (a.own = b.own) && (decide (a.seg = b.seg) && (decide (a.op = b.op) && (decide (a.n = b.n) && (decide (a.m = b.m) && (decide (a.text = b.text) && (decide (a.cat = b.cat) && decide (a.write = b.write))))))))))) := by
  rw [← Bool.decide_and, ← Bool.decide_and, ← Bool.decide_and, ← Bool.decide_and, ← Bool.decide_and, ← Bool.decide_and, ← Bool.decide_and, ← Bool.decide_and, ← Bool.decide_and, ← Bool.decide_and]
  refine decide_eq_decide.2 ?_
  obtain ⟨a1, a2, a3, a4, a5, a6, a7, a8, a9, a10, a11⟩ := a
  obtain ⟨b1, b2, b3, b4, b5, b6, b7, b8, b9, b10, b11⟩ := b
  simp only [Cal.mk.injEq]
  constructor
  ·rintro ⟨h1, h2, h3, h4, h5, h6, h7, h8, h9, h10, h11⟩; exact ⟨h2, h3, h4, h5, h10, h1, h6, h7, h8, h9, h11⟩
  ·rintro ⟨h2, h3, h4, h5, h10, h1, h6, h7, h8, h9, h11⟩; exact ⟨h1, h2, h3, h4, h5, h6, h7, h8, h9, h10, h11⟩
 rw [he, af T_14]
 clear he ha
 obtain ⟨a1, a2, a3, a4, a5, a6, a7, a8, a9, a10, a11⟩ := a
 obtain ⟨b1, b2, b3, b4, b5, b6, b7, b8, b9, b10, b11⟩ := b
 simp only [encC] at q1 q2 q3 q4 q5 q6 q7 q8 q9 q10 q11 ⊢
 generalize decide (a2 = b2) = d2 at *
 generalize decide (a3 = b3) = d3 at *
 generalize decide (a4 = b4) = d4 at *
 generalize decide (a5 = b5) = d5 at *
 generalize decide (a10 = b10) = d10 at *
 generalize decide (a1 = b1) = d1 at *
 generalize decide (a6 = b6) = d6 at *
 generalize decide (a7 = b7) = d7 at *
 generalize decide (a8 = b8) = d8 at *
 generalize decide (a9 = b9) = d9 at *
 generalize decide (a11 = b11) = d11 at *
 cases d2
 ·simp (maxSteps := 4000000) -implicitDefEqProofs (disch := (refine ab ?_; first | assumption | omega | (simp [go_sem] <;> omega) | with_unfolding_all rfl | decide)) only [go_sem, Nat.reduceAdd, Nat.reduceSub, reduceIte, reduceCtorEq, bJ, q1, q2, q3, q4, q5, q6, q7, q8, q9, q10, q11, Bool.false_and, Bool.true_and]
 cases d3
 ·simp (maxSteps := 4000000) -implicitDefEqProofs (disch := (refine ab ?_; first | assumption | omega | (simp [go_sem] <;> omega) | with_unfolding_all rfl | decide)) only [go_sem, Nat.reduceAdd, Nat.reduceSub, reduceIte, reduceCtorEq, bJ, q1, q2, q3, q4, q5, q6, q7, q8, q9, q10, q11, Bool.false_and, Bool.true_and]
 cases d4
 ·simp (maxSteps := 4000000) -implicitDefEqProofs (disch := (refine ab ?_; first | assumption | omega | (simp [go_sem] <;> omega) | with_unfolding_all rfl | decide)) only [go_sem, Nat.reduceAdd, Nat.reduceSub, reduceIte, reduceCtorEq, bJ, q1, q2, q3, q4, q5, q6, q7, q8, q9, q10, q11, Bool.false_and, Bool.true_and]
 cases d5
 ·simp (maxSteps := 4000000) -implicitDefEqProofs (disch := (refine ab ?_; first | assumption | omega | (simp [go_sem] <;> omega) | with_unfolding_all rfl | decide)) only [go_sem, Nat.reduceAdd, Nat.reduceSub, reduceIte, reduceCtorEq, bJ, q1, q2, q3, q4, q5, q6, q7, q8, q9, q10, q11, Bool.false_and, Bool.true_and]
 cases d10
 ·simp (maxSteps := 4000000) -implicitDefEqProofs (disch := (refine ab ?_; first | assumption | omega | (simp [go_sem] <;> omega) | with_unfolding_all rfl | decide)) only [go_sem, Nat.reduceAdd, Nat.reduceSub, reduceIte, reduceCtorEq, bJ, q1, q2, q3, q4, q5, q6, q7, q8, q9, q10, q11, Bool.false_and, Bool.true_and]
 cases d1
 ·simp (maxSteps := 4000000) -implicitDefEqProofs (disch := (refine ab ?_; first | assumption | omega | (simp [go_sem] <;> omega) | with_unfolding_all rfl | decide)) only [go_sem, Nat.reduceAdd, Nat.reduceSub, reduceIte, reduceCtorEq, bJ, q1, q2, q3, q4, q5, q6, q7, q8, q9, q10, q11, Bool.false_and, Bool.true_and]
 cases d6
 ·simp (maxSteps := 4000000) -implicitDefEqProofs (disch := (refine ab ?_; first | assumption | omega | (simp [go_sem] <;> omega) | with_unfolding_all rfl | decide)) only [go_sem, Nat.reduceAdd, Nat.reduceSub, reduceIte, reduceCtorEq, bJ, q1, q2, q3, q4, q5, q6, q7, q8, q9, q10, q11, Bool.false_and, Bool.true_and]
 cases d7
 ·simp (maxSteps := 4000000) -implicitDefEqProofs (disch := (refine ab ?_; first | assumption | omega | (simp [go_sem] <;> omega) | with_unfolding_all rfl | decide)) only [go_sem, Nat.reduceAdd, Nat.reduceSub, reduceIte, reduceCtorEq, bJ, q1, q2, q3, q4, q5, q6, q7, q8, q9, q10, q11, Bool.false_and, Bool.true_and]
 cases d8
 ·simp (maxSteps := 4000000) -implicitDefEqProofs (disch := (refine ab ?_; first | assumption | omega | (simp [go_sem] <;> omega) | with_unfolding_all rfl | decide)) only [go_sem, Nat.reduceAdd, Nat.reduceSub, reduceIte, reduceCtorEq, bJ, q1, q2, q3, q4, q5, q6, q7, q8, q9, q10, q11, Bool.false_and, Bool.true_and]
 cases d9
 ·simp (maxSteps := 4000000) -implicitDefEqProofs (disch := (refine ab ?_; first | assumption | omega | (simp [go_sem] <;> omega) | with_unfolding_all rfl | decide)) only [go_sem, Nat.reduceAdd, Nat.reduceSub, reduceIte, reduceCtorEq, bJ, q1, q2, q3, q4, q5, q6, q7, q8, q9, q10, q11, Bool.false_and, Bool.true_and]
 ·simp (maxSteps := 4000000) -implicitDefEqProofs (disch := (refine ab ?_; first | assumption | omega | (simp [go_sem] <;> omega) | with_unfolding_all rfl | decide)) only [go_sem, Nat.reduceAdd, Nat.reduceSub, reduceIte, reduceCtorEq, bJ, q1, q2, q3, q4, q5, q6, q7, q8, q9, q10, q11, Bool.false_and, Bool.true_and]
end Go.Proofs.YtibchilpaaiecaaGreatDoor.L
/- Calls: which are right. -/
set_option linter.all false
set_option maxRecDepth 100000
set_option maxHeartbeats 32000000
namespace Go.Proofs.YtibchilpaaiecaaGreatDoor.L
open Go.Proofs.YtibchilpaaiecaaGreatDoor.M Go.Proofs.YtibchilpaaiecaaGreatDoor.F Go.Proofs
def rgP (c : Cal) (p : Int) : Bool :=
 if p = 0 then rigP c.at_ else if p = 1 then rigL c.lab else if p = 2 then okN c.n else if p = 3 then okN c.m else if p = 4 then rigL c.ent else if p = 5 then rigO c.own else
 if p = 6 then decide (c.text.length ≤ 256) else if p = 7 then rigC c.cat else if p = 8 then rigP c.seg else if p = 10 then decide (c.n ≥ -1048576) && decide (c.n ≤ 1048576) else true
theorem yT {c : Cal} {p : Int} (hc : okC c) (hp : 0 ≤ p ∧ p ≤ 10) : run U 41 [.int .i64 p, .agg (encC c)] [] = some (.bool (rgP c p), []) := by
 have q1 := upU (sM (l := c.at_) (h := []))
 have q2 := upU (sK hc.labS)
 have q3 := upU (sK hc.entS)
 have q4 := xx (h := []) hc.ownS
 have q5 := upU (sM (l := c.seg) (h := []))
 have q6 := upU (sH (h := []) hc.catS)
 have q7 := upU (xz (n := c.n) (h := []))
 have q8 := upU (xz (n := c.m) (h := []))
 have q9 : decide ((c.text.length : Int) ≤ 256) = decide (c.text.length ≤ 256) := by congr 1; exact propext (by omega)
 rw [show (decide (c.n ≥ 0) && decide (c.n ≤ 1048576)) = okN c.n from rfl] at q7
 rw [show (decide (c.m ≥ 0) && decide (c.m ≤ 1048576)) = okN c.m from rfl] at q8
 rw [af (show U 41 = some (.code cM) from rfl)]
 clear hc
 obtain ⟨a1, a2, a3, a4, a5, a6, a7, a8, a9, a10, a11⟩ := c
 simp only [encC] at q1 q2 q3 q4 q5 q6 q7 q8 q9 ⊢
 rcases nK hp with rfl | rfl | rfl | rfl | rfl | rfl | rfl | rfl | rfl | rfl | rfl
 all_goals simp only [rgP, Int.reduceEq, if_true, if_false, reduceIte]
 rotate_right 1
 ·cases h0 : decide (a6 ≥ -1048576) <;> simp (maxSteps := 4000000) -implicitDefEqProofs (disch := (refine ab ?_; first | assumption | omega | (simp [go_sem] <;> omega) | with_unfolding_all rfl | decide)) only [go_sem, Nat.reduceAdd, Nat.reduceSub, reduceIte, reduceCtorEq, cM, Int.reduceBEq, Int.reduceNeg, h0, Bool.true_and, Bool.false_and]
 all_goals simp (maxSteps := 4000000) -implicitDefEqProofs (disch := (refine ab ?_; first | assumption | omega | (simp [go_sem] <;> omega) | with_unfolding_all rfl | decide)) only [go_sem, Nat.reduceAdd, Nat.reduceSub, reduceIte, reduceCtorEq, cM, q1, q2, q3, q4, q5, q6, q7, q8, List.length_map, q9, Int.reduceBEq]
theorem BL {c : Cal} {p : Int} (hc : okC c) (hp : 0 ≤ p ∧ p ≤ 10) : run U 40 [.int .i64 p, .box 0 0] [.cells (encC c)] = some (.bool (!rgP c p), [.cells (encC c)]) := by
 have h1 := yT hc hp
 rw [af (show U 40 = some (.code eV) from rfl)]
 generalize rgP c p = r at *
 clear hc
 obtain ⟨a1, a2, a3, a4, a5, a6, a7, a8, a9, a10, a11⟩ := c
 simp only [encC] at h1 ⊢
 simp (maxSteps := 4000000) -implicitDefEqProofs (disch := (refine ab ?_; first | assumption | omega | (simp [go_sem] <;> omega) | with_unfolding_all rfl | decide)) only [go_sem, Nat.reduceAdd, Nat.reduceSub, reduceIte, reduceCtorEq, eV, h1]
def fnR : AV := .fn (.func 40) [] [.box 0 0]
theorem yU {c : Cal} {l : List Int} (hc : okC c) (hr : ∀ p ∈ l, 0 ≤ p ∧ p ≤ 10) (hl : l.length ≤ 1000) : ∀ (d i : Nat), d + i = l.length →
  ((l.drop i).all (rgP c) = true ∧ den U (.loop ao) (aD (.sl .sh (l.map encI)) fnR (.int .i64 l.length) (.int .i64 i)) [.cells (encC c)] = some (.exit 0, ez, [.cells (encC c)])) ∨
  ((l.drop i).all (rgP c) = false ∧ ∃ σ j, den U (.loop ao) (aD (.sl .sh (l.map encI)) fnR (.int .i64 l.length) (.int .i64 i)) [.cells (encC c)] = some (.ret, σ, [.cells (encC c)]) ∧ σ.getD 4 aa = .int .i64 ((j : Nat) : Int)) := by
 intro d
 induction d with
 | zero =>
  intro i hd
  have hd' : decide ((i : Int) < l.length) = false := decide_eq_false (by omega)
  refine .inl ⟨by rw [List.drop_eq_nil_of_le (by omega)]; rfl, ?_⟩
  rw [ae]
  simp -implicitDefEqProofs (disch := (refine ab ?_; first | assumption | omega | (simp [go_sem] <;> omega) | with_unfolding_all rfl | decide)) only [go_sem, Nat.reduceAdd, Nat.reduceSub, reduceIte, reduceCtorEq, hd', fnR]
 | succ d ih =>
  intro i hd
  have hib : i < l.length := by omega
  have hd' : decide ((i : Int) < l.length) = true := decide_eq_true (by omega)
  have hge : (l.map encI)[(i : Int).toNat]? = some (encI l[i]) := by simp [hib]
  have hdr : l.drop i = l[i] :: l.drop (i + 1) := List.drop_eq_getElem_cons hib
  have e7 := incP (n := i) (by omega)
  have ih' := ih (i + 1) (by omega)
  have hp := hr l[i] (by simp)
  rw [hdr, List.all_cons]
  generalize l[i] = x at *
  have hb := BL hc hp
  simp only [encI] at hge
  generalize hE : encC c = E at *
  cases hx : rgP c x
  ·rw [hx] at hb
   refine .inr ⟨rfl, ?_⟩
   rw [ae]
   simp (maxSteps := 2000000) -implicitDefEqProofs (disch := (refine ab ?_; first | assumption | omega | (simp [go_sem] <;> omega) | with_unfolding_all rfl | decide)) only [go_sem, Nat.reduceAdd, Nat.reduceSub, reduceIte, reduceCtorEq, hd', hge, fnR, hb, Bool.not_false]
   exact ⟨_, i, rfl, rfl⟩
  ·rw [hx] at hb
   have hstep : den U (.loop ao) (aD (.sl .sh (l.map encI)) fnR (.int .i64 l.length) (.int .i64 i)) [.cells E] = den U (.loop ao) (aD (.sl .sh (l.map encI)) fnR (.int .i64 l.length) (.int .i64 (i + 1 : Nat))) [.cells E] := by
    rw [ae]
    simp (maxSteps := 2000000) -implicitDefEqProofs (disch := (refine ab ?_; first | assumption | omega | (simp [go_sem] <;> omega) | with_unfolding_all rfl | decide)) only [go_sem, Nat.reduceAdd, Nat.reduceSub, reduceIte, reduceCtorEq, hd', hge, fnR, hb, e7, Bool.not_true]
    try rfl
   rw [hstep, Bool.true_and]
   exact ih'
theorem BM {c : Cal} {l : List Int} (hc : okC c) (hr : ∀ p ∈ l, 0 ≤ p ∧ p ≤ 10) (hl : l.length ≤ 1000) : run U 38 [.sl .sh (l.map encI), fnR] [.cells (encC c)] = some (.bool (!(l.all (rgP c))), [.cells (encC c)]) := by
 have hi : ∃ n : Int, run U 81 [.sl .sh (l.map encI), fnR] [.cells (encC c)] = some (.int .i64 n, [.cells (encC c)]) ∧ decide (n ≥ 0) = !(l.all (rgP c)) := by
  rw [af (show U 81 = some (.code aj) from rfl)]
  rcases yU hc hr hl l.length 0 (by omega) with ⟨h1, h2⟩ | ⟨h1, σ, j, h2, h3⟩
  ·simp only [show ((0 : Nat) : Int) = 0 from rfl, List.drop_zero, fnR] at h1 h2
   refine ⟨-1, ?_, by rw [h1]; rfl⟩
   simp (maxSteps := 2000000) -implicitDefEqProofs (disch := (refine ab ?_; first | assumption | omega | (simp [go_sem] <;> omega) | with_unfolding_all rfl | decide)) only [go_sem, Nat.reduceAdd, Nat.reduceSub, reduceIte, reduceCtorEq, aj, List.length_map, fnR, h2]
  ·simp only [show ((0 : Nat) : Int) = 0 from rfl, List.drop_zero, fnR] at h1 h2
   refine ⟨j, ?_, by rw [h1]; exact decide_eq_true (by omega)⟩
   simp (maxSteps := 2000000) -implicitDefEqProofs (disch := (refine ab ?_; first | assumption | omega | (simp [go_sem] <;> omega) | with_unfolding_all rfl | decide)) only [go_sem, Nat.reduceAdd, Nat.reduceSub, reduceIte, reduceCtorEq, aj, List.length_map, fnR, h2, h3]
 obtain ⟨n, h1, h2⟩ := hi
 rw [af (show U 38 = some (.code al) from rfl)]
 simp only [fnR] at h1 ⊢
 simp (maxSteps := 2000000) -implicitDefEqProofs (disch := (refine ab ?_; first | assumption | omega | (simp [go_sem] <;> omega) | with_unfolding_all rfl | decide)) only [go_sem, Nat.reduceAdd, Nat.reduceSub, reduceIte, reduceCtorEq, al, h1, h2]
def eN (c : Cal) : Bool := decide (c.op ≥ 0) && decide (c.op ≤ 20) && decide (plC c = c) && (pL c.op).all (rgP c)
theorem HM {c o : Cal} (hc : okC c) (ho : okC o) (p : Int) : okC (plnS c o p) := by
 by_cases h0 : p = 0
 ·rw [plnS, if_pos h0]; exact ⟨hc.at_, ho.lab, ho.ent, ho.own, ho.text, ho.seg, ho.labS, ho.entS, ho.ownS, ho.catS⟩
 by_cases h1 : p = 1
 ·rw [plnS, if_neg h0, if_pos h1]; exact ⟨ho.at_, hc.lab, ho.ent, ho.own, ho.text, ho.seg, hc.labS, ho.entS, ho.ownS, ho.catS⟩
 by_cases h2 : p = 2
 ·rw [plnS, if_neg h0, if_neg h1, if_pos h2]; exact ⟨ho.at_, ho.lab, ho.ent, ho.own, ho.text, ho.seg, ho.labS, ho.entS, ho.ownS, ho.catS⟩
 by_cases h3 : p = 3
 ·rw [plnS, if_neg h0, if_neg h1, if_neg h2, if_pos h3]; exact ⟨ho.at_, ho.lab, ho.ent, ho.own, ho.text, ho.seg, ho.labS, ho.entS, ho.ownS, ho.catS⟩
 by_cases h4 : p = 4
 ·rw [plnS, if_neg h0, if_neg h1, if_neg h2, if_neg h3, if_pos h4]; exact ⟨ho.at_, ho.lab, hc.ent, ho.own, ho.text, ho.seg, ho.labS, hc.entS, ho.ownS, ho.catS⟩
 by_cases h5 : p = 5
 ·rw [plnS, if_neg h0, if_neg h1, if_neg h2, if_neg h3, if_neg h4, if_pos h5]; exact ⟨ho.at_, ho.lab, ho.ent, hc.own, ho.text, ho.seg, ho.labS, ho.entS, hc.ownS, ho.catS⟩
 by_cases h6 : p = 6
 ·rw [plnS, if_neg h0, if_neg h1, if_neg h2, if_neg h3, if_neg h4, if_neg h5, if_pos h6]; exact ⟨ho.at_, ho.lab, ho.ent, ho.own, hc.text, ho.seg, ho.labS, ho.entS, ho.ownS, ho.catS⟩
 by_cases h7 : p = 7
 ·rw [plnS, if_neg h0, if_neg h1, if_neg h2, if_neg h3, if_neg h4, if_neg h5, if_neg h6, if_pos h7]; exact ⟨ho.at_, ho.lab, ho.ent, ho.own, ho.text, ho.seg, ho.labS, ho.entS, ho.ownS, hc.catS⟩
 by_cases h8 : p = 8
 ·rw [plnS, if_neg h0, if_neg h1, if_neg h2, if_neg h3, if_neg h4, if_neg h5, if_neg h6, if_neg h7, if_pos h8]; exact ⟨ho.at_, ho.lab, ho.ent, ho.own, ho.text, hc.seg, ho.labS, ho.entS, ho.ownS, ho.catS⟩
 by_cases h9 : p = 9
 ·rw [plnS, if_neg h0, if_neg h1, if_neg h2, if_neg h3, if_neg h4, if_neg h5, if_neg h6, if_neg h7, if_neg h8, if_pos h9]; exact ⟨ho.at_, ho.lab, ho.ent, ho.own, ho.text, ho.seg, ho.labS, ho.entS, ho.ownS, ho.catS⟩
 by_cases h10 : p = 10
 ·rw [plnS, if_neg h0, if_neg h1, if_neg h2, if_neg h3, if_neg h4, if_neg h5, if_neg h6, if_neg h7, if_neg h8, if_neg h9, if_pos h10]; exact ⟨ho.at_, ho.lab, ho.ent, ho.own, ho.text, ho.seg, ho.labS, ho.entS, ho.ownS, ho.catS⟩
 rw [plnS, if_neg h0, if_neg h1, if_neg h2, if_neg h3, if_neg h4, if_neg h5, if_neg h6, if_neg h7, if_neg h8, if_neg h9, if_neg h10]; exact ho
theorem sR (op : Int) : okC (eA op) := by
 have h : shS (eA op).own := fun e he => by cases he
 exact ⟨by simp [eA], by simp [eA], by simp [eA], by simp [eA], by simp [eA], by simp [eA], (fun e he => by cases he), (fun e he => by cases he), h, by simp [eA]⟩
theorem BN {c : Cal} (hc : okC c) : ∀ (l : List Int) (o : Cal), okC o → okC (l.foldl (plnS c) o)
 | [], o, ho => ho
 | p :: l, o, ho => BN hc l _ (HM hc ho p)
theorem Kd {c : Cal} (hc : okC c) : okC (plC c) := BN hc _ _ (sR _)
theorem BO {c : Cal} (hc : okC c) : run U 12 [.agg (encC c)] [] = some (.bool (eN c), []) := by
 have h1 := upU (BJ (op := c.op) (h := []))
 have h2 := upU (BK hc)
 have h3 := upU (DS (b := c) (Kd hc))
 have h4 := upU (uB (op := c.op))
 have h5 := BM (l := pL c.op) hc (pU c.op).2 (by have := (pU c.op).1; omega)
 rw [af (show U 12 = some (.code dG) from rfl)]
 unfold eN
 simp only [fnR] at h5
 generalize (decide (c.op ≥ 0) && decide (c.op ≤ 20)) = d1 at *
 generalize plC c = q at *
 generalize decide (q = c) = d2 at *
 generalize (pL c.op).all (rgP c) = d3 at *
 clear hc
 obtain ⟨a1, a2, a3, a4, a5, a6, a7, a8, a9, a10, a11⟩ := c
 obtain ⟨b1, b2, b3, b4, b5, b6, b7, b8, b9, b10, b11⟩ := q
 simp only [encC] at h1 h2 h3 h4 h5 ⊢
 generalize pL a1 = ps at *
 cases d1
 ·simp (maxSteps := 4000000) -implicitDefEqProofs (disch := (refine ab ?_; first | assumption | omega | (simp [go_sem] <;> omega) | with_unfolding_all rfl | decide)) only [go_sem, Nat.reduceAdd, Nat.reduceSub, reduceIte, reduceCtorEq, dG, h1, Bool.false_and]
 cases d2
 ·simp (maxSteps := 4000000) -implicitDefEqProofs (disch := (refine ab ?_; first | assumption | omega | (simp [go_sem] <;> omega) | with_unfolding_all rfl | decide)) only [go_sem, Nat.reduceAdd, Nat.reduceSub, reduceIte, reduceCtorEq, dG, h1, h2, h3, Bool.false_and, Bool.true_and]
 cases d3
 ·simp (maxSteps := 4000000) -implicitDefEqProofs (disch := (refine ab ?_; first | assumption | omega | (simp [go_sem] <;> omega) | with_unfolding_all rfl | decide)) only [go_sem, Nat.reduceAdd, Nat.reduceSub, reduceIte, reduceCtorEq, dG, h1, h2, h3, h4, h5, Bool.false_and, Bool.true_and, Bool.not_false]
 ·simp (maxSteps := 4000000) -implicitDefEqProofs (disch := (refine ab ?_; first | assumption | omega | (simp [go_sem] <;> omega) | with_unfolding_all rfl | decide)) only [go_sem, Nat.reduceAdd, Nat.reduceSub, reduceIte, reduceCtorEq, dG, h1, h2, h3, h4, h5, Bool.false_and, Bool.true_and, Bool.not_true]
end Go.Proofs.YtibchilpaaiecaaGreatDoor.L
/- Calls told: which are too great to be asked. -/
set_option linter.all false
set_option maxRecDepth 100000
set_option maxHeartbeats 32000000
namespace Go.Proofs.YtibchilpaaiecaaGreatDoor.L
open Go.Proofs.YtibchilpaaiecaaGreatDoor.M Go.Proofs.YtibchilpaaiecaaGreatDoor.F Go.Proofs
theorem kY {c : Cal} (h : eN c = true) : (0 ≤ c.op ∧ c.op ≤ 20) ∧ plC c = c ∧ ∀ p ∈ pL c.op, rgP c p = true := by
 simp only [eN, Bool.and_eq_true, decide_eq_true_eq, List.all_eq_true] at h
 exact ⟨⟨h.1.1.1, h.1.1.2⟩, h.1.2, h.2⟩
theorem fold_eq {c : Cal} : ∀ (ps : List Int) (o : Cal), (∀ p ∈ ps, 0 ≤ p ∧ p ≤ 10) → ps.foldl (plnS c) o =
  ⟨o.op, if 0 ∈ ps then c.at_ else o.at_, if 1 ∈ ps then c.lab else o.lab, if 4 ∈ ps then c.ent else o.ent, if 5 ∈ ps then c.own else o.own, if 2 ∈ ps ∨ 10 ∈ ps then c.n else o.n, if 3 ∈ ps then c.m else o.m, if 6 ∈ ps then c.text else o.text, if 7 ∈ ps then c.cat else o.cat, if 8 ∈ ps then c.seg else o.seg, if 9 ∈ ps then c.write else o.write⟩
 | [], o, _ => by simp
 | p :: ps, o, h => by
  rw [List.foldl_cons, fold_eq ps _ (fun q hq => h q (by simp [hq]))]
  rcases nK (h p (by simp)) with rfl | rfl | rfl | rfl | rfl | rfl | rfl | rfl | rfl | rfl | rfl
  all_goals simp [plnS]
theorem BP (c : Cal) : plC c = ⟨c.op, if 0 ∈ pL c.op then c.at_ else [], if 1 ∈ pL c.op then c.lab else [], if 4 ∈ pL c.op then c.ent else [], if 5 ∈ pL c.op then c.own else [], if 2 ∈ pL c.op ∨ 10 ∈ pL c.op then c.n else 0, if 3 ∈ pL c.op then c.m else 0, if 6 ∈ pL c.op then c.text else [], if 7 ∈ pL c.op then c.cat else [], if 8 ∈ pL c.op then c.seg else [], if 9 ∈ pL c.op then c.write else false⟩ := fold_eq _ _ (pU _).2
theorem oC : rigP [] = true := rfl
theorem oD : rigL [] = true := rfl
theorem oE : rigO [] = true := rfl
structure RcC (c : Cal) : Prop where
 op : 0 ≤ c.op ∧ c.op ≤ 20
 at_ : rigP c.at_ = true
 lab : rigL c.lab = true
 ent : rigL c.ent = true
 own : rigO c.own = true
 seg : rigP c.seg = true
 text : c.text.length ≤ 256
 m : 0 ≤ c.m ∧ c.m ≤ 1048576
 n : -1048576 ≤ c.n ∧ c.n ≤ 1048576
 cat : c.cat.length ≤ 60
theorem rf {c : Cal} (h : eN c = true) : RcC c := by
 obtain ⟨ho, hpl, hg⟩ := kY h
 have hpe := BP c
 rw [hpl] at hpe
 have g0 := fun z => hg 0 z
 have g1 := fun z => hg 1 z
 have g2 := fun z => hg 2 z
 have g3 := fun z => hg 3 z
 have g4 := fun z => hg 4 z
 have g5 := fun z => hg 5 z
 have g6 := fun z => hg 6 z
 have g7 := fun z => hg 7 z
 have g8 := fun z => hg 8 z
 have g10 := fun z => hg 10 z
 simp only [rgP, Int.reduceEq, if_true, if_false, reduceIte, mc, decide_eq_true_eq, Bool.and_eq_true, ge_iff_le] at g0 g1 g2 g3 g4 g5 g6 g7 g8 g10
 have f0 := congrArg Cal.at_ hpe
 have f1 := congrArg Cal.lab hpe
 have f4 := congrArg Cal.ent hpe
 have f5 := congrArg Cal.own hpe
 have fn := congrArg Cal.n hpe
 have f3 := congrArg Cal.m hpe
 have f6 := congrArg Cal.text hpe
 have f7 := congrArg Cal.cat hpe
 have f8 := congrArg Cal.seg hpe
 simp only at f0 f1 f4 f5 fn f3 f6 f7 f8
 generalize pL c.op = ps at *
 clear hpe hpl h
 refine ⟨ho, ?_, ?_, ?_, ?_, ?_, ?_, ?_, ?_, ?_⟩
 ·by_cases z : (0 : Int) ∈ ps
  ·exact g0 z
  ·rw [if_neg z] at f0; rw [f0]; exact oC
 ·by_cases z : (1 : Int) ∈ ps
  ·exact g1 z
  ·rw [if_neg z] at f1; rw [f1]; exact oD
 ·by_cases z : (4 : Int) ∈ ps
  ·exact g4 z
  ·rw [if_neg z] at f4; rw [f4]; exact oD
 ·by_cases z : (5 : Int) ∈ ps
  ·exact g5 z
  ·rw [if_neg z] at f5; rw [f5]; exact oE
 ·by_cases z : (8 : Int) ∈ ps
  ·exact g8 z
  ·rw [if_neg z] at f8; rw [f8]; exact oC
 ·by_cases z : (6 : Int) ∈ ps
  ·exact g6 z
  ·rw [if_neg z] at f6; rw [f6]; simp
 ·by_cases z : (3 : Int) ∈ ps
  ·exact g3 z
  ·rw [if_neg z] at f3; rw [f3]; omega
 ·by_cases z2 : (2 : Int) ∈ ps
  ·have := g2 z2; omega
  by_cases z10 : (10 : Int) ∈ ps
  ·have := g10 z10; omega
  ·rw [if_neg (by simp [z2, z10])] at fn; rw [fn]; omega
 ·by_cases z : (7 : Int) ∈ ps
  ·exact sL (g7 z)
  ·rw [if_neg z] at f7; rw [f7]; simp
end Go.Proofs.YtibchilpaaiecaaGreatDoor.L
