/- The document's right calls: the walk, stage by stage (written by tools/mk118.py). -/
import Derived.Test.YtibchilpaaiecaaGreatDoorL43
import Derived.Test.YtibchilpaaiecaaGreatDoorL57
import Derived.KernelRfl
set_option linter.all false
set_option maxRecDepth 100000
set_option maxHeartbeats 32000000
namespace Go.Proofs.YtibchilpaaiecaaGreatDoor.L
open Go.Proofs.YtibchilpaaiecaaGreatDoor.M Go.Proofs.YtibchilpaaiecaaGreatDoor.F Go.Proofs
def hasP (p : List UInt8) (n : Int) : Bool := p.any fun c => (c.toNat : Int) == n
theorem EI {p : List UInt8} {n : Int} {h : AH} (hp : p.length ≤ 1000) : ∀ (d i : Nat), d + i = p.length →
  (hasP (p.drop i) n = false ∧ den T (.loop cF) (dy (.str ⟨p.toArray⟩) (.int .u8 n) (.int .i64 i)) h = some (.exit 0, lE, h)) ∨
  (hasP (p.drop i) n = true ∧ ∃ σ, den T (.loop cF) (dy (.str ⟨p.toArray⟩) (.int .u8 n) (.int .i64 i)) h = some (.ret, σ, h) ∧ σ.getD 4 aa = .bool true) := by
 have hz : (⟨p.toArray⟩ : ByteArray).size = p.length := by simp [ByteArray.size]
 intro d
 induction d with
 | zero =>
  intro i hd
  have hd' : decide ((i : Int) < p.length) = false := decide_eq_false (by omega)
  refine .inl ⟨by rw [List.drop_eq_nil_of_le (by omega)]; rfl, ?_⟩
  rw [ae]
  simp -implicitDefEqProofs (disch := (refine ab ?_; first | assumption | omega | (simp [go_sem] <;> omega) | with_unfolding_all rfl | decide)) only [go_sem, Nat.reduceAdd, Nat.reduceSub, reduceIte, reduceCtorEq, hz, hd']
 | succ d ih =>
  intro i hd
  have hib : i < p.length := by omega
  have hd' : decide ((i : Int) < p.length) = true := decide_eq_true (by omega)
  have hg : (⟨p.toArray⟩ : ByteArray)[(i : Int).toNat]? = some p[i] := by
   have := gL (a := p) (i := i)
   rw [Int.toNat_natCast, this]; simp [hib]
  have hdr : p.drop i = p[i] :: p.drop (i + 1) := List.drop_eq_getElem_cons hib
  have e7 := incP (n := i) (by omega)
  have ih' := ih (i + 1) (by omega)
  rw [hdr]
  unfold hasP at ih' ⊢
  rw [List.any_cons]
  generalize p[i] = x at *
  cases hx : ((x.toNat : Int) == n) with
  | true =>
   refine .inr ⟨rfl, ?_⟩
   rw [ae]
   simp (maxSteps := 2000000) -implicitDefEqProofs (disch := (refine ab ?_; first | assumption | omega | (simp [go_sem] <;> omega) | with_unfolding_all rfl | decide)) only [go_sem, Nat.reduceAdd, Nat.reduceSub, reduceIte, reduceCtorEq, hz, hd', hg, hx]
   exact ⟨_, rfl, rfl⟩
  | false =>
   have hstep : den T (.loop cF) (dy (.str ⟨p.toArray⟩) (.int .u8 n) (.int .i64 i)) h = den T (.loop cF) (dy (.str ⟨p.toArray⟩) (.int .u8 n) (.int .i64 (i + 1 : Nat))) h := by
    rw [ae]
    simp (maxSteps := 2000000) -implicitDefEqProofs (disch := (refine ab ?_; first | assumption | omega | (simp [go_sem] <;> omega) | with_unfolding_all rfl | decide)) only [go_sem, Nat.reduceAdd, Nat.reduceSub, reduceIte, reduceCtorEq, hz, hd', hg, hx, e7]
    try rfl
   rw [hstep, Bool.false_or]
   exact ih'
theorem iw {p : List UInt8} {n : Int} {h : AH} (hp : p.length ≤ 1000) : run T 73 [.str ⟨p.toArray⟩, .int .u8 n] h = some (.bool (hasP p n), h) := by
 rw [af T_73]
 have hlp := EI (n := n) (h := h) hp p.length 0 (by omega)
 simp only [List.drop_zero, show ((0 : Nat) : Int) = 0 from rfl] at hlp
 rcases hlp with ⟨h1, h2⟩ | ⟨h1, σ, h2, h3⟩
 ·rw [h1]
  simp (maxSteps := 2000000) -implicitDefEqProofs (disch := (refine ab ?_; first | assumption | omega | (simp [go_sem] <;> omega) | with_unfolding_all rfl | decide)) only [go_sem, Nat.reduceAdd, Nat.reduceSub, reduceIte, reduceCtorEq, dm, h2]
 ·rw [h1]
  simp (maxSteps := 2000000) -implicitDefEqProofs (disch := (refine ab ?_; first | assumption | omega | (simp [go_sem] <;> omega) | with_unfolding_all rfl | decide)) only [go_sem, Nat.reduceAdd, Nat.reduceSub, reduceIte, reduceCtorEq, dm, h2, h3]
def pS (op : Int) : List UInt8 :=
 if op = 2 then [97, 108, 110, 109] else if op = 3 then [97, 108, 110] else if op = 4 then [97, 108, 110, 111] else if op = 5 then [97, 108, 110, 101, 111, 109] else
 if op = 6 then [97, 108, 110] else if op = 7 then [97, 110, 109] else if op = 8 then [97, 110, 116] else if op = 9 then [97, 110] else if op = 10 then [97] else
 if op = 11 then [97] else if op = 12 then [97] else if op = 13 then [97, 100] else if op = 14 then [108] else if op = 15 then [97] else if op = 16 then [99] else
 if op = 17 then [97, 110, 115, 119] else if op = 18 then [97, 110] else if op = 19 then [97, 110, 109] else if op = 20 then [97, 110, 116] else []
theorem pX {op : Int} (h : ¬ (2 ≤ op ∧ op ≤ 20)) : pS op = [] := by
 unfold pS
 repeat rw [if_neg (by omega)]
theorem Kk (op : Int) : (pS op).length ≤ 6 := by
 by_cases hop : 2 ≤ op ∧ op ≤ 20
 ·rcases dS hop with rfl | rfl | rfl | rfl | rfl | rfl | rfl | rfl | rfl | rfl | rfl | rfl | rfl | rfl | rfl | rfl | rfl | rfl | rfl <;> decide
 ·rw [pX hop]; simp
theorem rl {op : Int} : run T 31 [.int .i64 op] [] = some (.str ⟨(pS op).toArray⟩, []) := by
 by_cases hop : 2 ≤ op ∧ op ≤ 20
 ·rcases dS hop with rfl | rfl | rfl | rfl | rfl | rfl | rfl | rfl | rfl | rfl | rfl | rfl | rfl | rfl | rfl | rfl | rfl | rfl | rfl <;> exact fm (n := 300) (by kernel_rfl)
 ·by_cases h0 : op = 0
  ·subst h0; exact fm (n := 300) (by kernel_rfl)
  by_cases h1 : op = 1
  ·subst h1; exact fm (n := 300) (by kernel_rfl)
  rw [pX hop, af T_31]
  by_cases hn : op < 0
  ·have e1 : decide (op < 0) = true := decide_eq_true hn
   simp (maxSteps := 4000000) -implicitDefEqProofs (disch := (refine ab ?_; first | assumption | omega | (simp [go_sem] <;> omega) | with_unfolding_all rfl | decide)) only [go_sem, Nat.reduceAdd, Nat.reduceSub, reduceIte, reduceCtorEq, cD, e1]
  ·have e1 : decide (op < 0) = false := decide_eq_false hn
   have e2 : decide (op > 20) = true := decide_eq_true (by omega)
   simp (maxSteps := 4000000) -implicitDefEqProofs (disch := (refine ab ?_; first | assumption | omega | (simp [go_sem] <;> omega) | with_unfolding_all rfl | decide)) only [go_sem, Nat.reduceAdd, Nat.reduceSub, reduceIte, reduceCtorEq, cD, e1, e2]
def fi13 (c : Cal) (p : List UInt8) (ok : Bool) : Bool := ok && ((c.n == 0) || hasP p 100)
def fi12 (c : Cal) (p : List UInt8) (ok : Bool) : Bool := if hasP p 110 = true then ok && decide (c.n ≥ 0) else fi13 c p ok
def fi11 (c : Cal) (p : List UInt8) (ok : Bool) : Bool := if hasP p 99 = true then fi12 c p (ok && rigC c.cat) else fi12 c p (ok && (c.cat == []))
def fi10 (c : Cal) (p : List UInt8) (ok : Bool) : Bool := fi11 c p (ok && ((!c.write) || hasP p 119) && decide (c.n ≤ 1048576) && decide (c.n ≥ -1048576))
def fi9 (c : Cal) (p : List UInt8) (ok : Bool) : Bool := fi10 c p (ok && ((c.m == 0) || hasP p 109) && decide (c.m ≥ 0) && decide (c.m ≤ 1048576))
def fi8 (c : Cal) (p : List UInt8) (ok : Bool) : Bool := fi9 c p (ok && (c.text.isEmpty || hasP p 116) && decide (c.text.length ≤ 256))
def fi7 (c : Cal) (p : List UInt8) (ok : Bool) : Bool := fi8 c p (ok && (c.seg.isEmpty || hasP p 115) && rigP c.seg)
def fi6 (c : Cal) (p : List UInt8) (ok : Bool) : Bool := fi7 c p (ok && (c.own.isEmpty || hasP p 111) && rigO c.own)
def fi5 (c : Cal) (p : List UInt8) (ok : Bool) : Bool := fi6 c p (ok && (c.ent.isEmpty || hasP p 101) && rigL c.ent)
def fi4 (c : Cal) (p : List UInt8) (ok : Bool) : Bool := fi5 c p (ok && (c.lab.isEmpty || hasP p 108) && rigL c.lab)
def fi3 (c : Cal) (p : List UInt8) (ok : Bool) : Bool := fi4 c p (ok && (c.at_.isEmpty || hasP p 97) && rigP c.at_)
theorem len0 {α : Type} (l : List α) : ((l.length : Int) == 0) = l.isEmpty := by
 cases l with
 | nil => rfl
 | cons a l => simp [List.isEmpty]; omega
theorem str0 (s : List UInt8) : (s == ([] : List UInt8)) = s.isEmpty := by cases s <;> rfl
abbrev fY (c : CC) (σ : List AV) (h : AH) (b : Bool) : Prop := ∃ σ' js, den T c σ h = some (.ret, σ', h ++ js) ∧ σ'.getD 2 aa = .bool b
theorem ID {c : CC} {σ : List AV} {h js : AH} {b : Bool} (hx : fY c σ (h ++ js) b) : ∃ σ' js', den T c σ (h ++ js) = some (.ret, σ', h ++ js') ∧ σ'.getD 2 aa = .bool b := by
 obtain ⟨σ', j2, h1, h2⟩ := hx
 exact ⟨σ', js ++ j2, by rw [h1, List.append_assoc], h2⟩
theorem Lv {c : Cal} {p : List UInt8} {ok : Bool} {σ : List AV} {h : AH} {v5 v157 v158 v159 v160 v161 v162 : AV} (hp : p.length ≤ 6) (hh : h[0]? = some (.cells (encC c))) (hσ : dD jj σ = jk (.box 0 0) (.str ⟨p.toArray⟩) (.bool ok) v5 v157 v158 v159 v160 v161 v162) : fY dO σ h (fi13 c p ok) := by
 have q1 := iw (p := p) (n := 100) (h := []) (by omega)
 unfold fY fi13
 rw [dO, iW, gi, hσ]
 obtain ⟨a1, a2, a3, a4, a5, a6, a7, a8, a9, a10, a11⟩ := c
 simp only [encC] at hh ⊢
 cases ok
 ·simp (maxSteps := 4000000) -implicitDefEqProofs (disch := (refine ab ?_; first | assumption | omega | (simp [go_sem] <;> omega) | with_unfolding_all rfl | decide)) only [go_sem, Nat.reduceAdd, Nat.reduceSub, reduceIte, reduceCtorEq, hh]
  exact ⟨_, [], ⟨rfl, by simp⟩, rfl⟩
 cases e1 : (a6 == 0)
 ·cases e2 : hasP p 100
  ·rw [e2] at q1
   simp (maxSteps := 4000000) -implicitDefEqProofs (disch := (refine ab ?_; first | assumption | omega | (simp [go_sem] <;> omega) | with_unfolding_all rfl | decide)) only [go_sem, Nat.reduceAdd, Nat.reduceSub, reduceIte, reduceCtorEq, hh, e1, q1]
   exact ⟨_, [], ⟨rfl, by simp⟩, rfl⟩
  ·rw [e2] at q1
   simp (maxSteps := 4000000) -implicitDefEqProofs (disch := (refine ab ?_; first | assumption | omega | (simp [go_sem] <;> omega) | with_unfolding_all rfl | decide)) only [go_sem, Nat.reduceAdd, Nat.reduceSub, reduceIte, reduceCtorEq, hh, e1, q1]
   exact ⟨_, [], ⟨rfl, by simp⟩, rfl⟩
 ·simp (maxSteps := 4000000) -implicitDefEqProofs (disch := (refine ab ?_; first | assumption | omega | (simp [go_sem] <;> omega) | with_unfolding_all rfl | decide)) only [go_sem, Nat.reduceAdd, Nat.reduceSub, reduceIte, reduceCtorEq, hh, e1, q1]
  exact ⟨_, [], ⟨rfl, by simp⟩, rfl⟩
theorem Kl {c : Cal} {p : List UInt8} {ok : Bool} {σ : List AV} {h : AH} {v5 v157 v158 v159 v160 v161 v162 : AV} (hp : p.length ≤ 6) (hh : h[0]? = some (.cells (encC c))) (hσ : dD jl σ = jm (.box 0 0) (.str ⟨p.toArray⟩) (.bool ok) v5 v157 v158 v159 v160 v161 v162) : fY cH σ h (fi12 c p ok) := by
 have q1 := iw (p := p) (n := 110) (h := []) (by omega)
 have nx := fun σ hσ => Lv (c := c) (p := p) (ok := ok) (σ := σ) (h := h) (v5 := v5) (v157 := v157) (v158 := v158) (v159 := v159) (v160 := v160) (v161 := v161) (v162 := v162) hp hh hσ
 unfold fi12
 cases e2 : hasP p 110
 ·rw [e2] at q1
  unfold fY
  rw [cH, iW, iW, gi, hσ]
  obtain ⟨a1, a2, a3, a4, a5, a6, a7, a8, a9, a10, a11⟩ := c
  simp only [encC] at hh nx ⊢
  simp (maxSteps := 4000000) -implicitDefEqProofs (disch := (refine ab ?_; first | assumption | omega | (simp [go_sem] <;> omega) | with_unfolding_all rfl | decide)) only [go_sem, Nat.reduceAdd, Nat.reduceSub, reduceIte, reduceCtorEq, hh, q1]
  exact nx _ (by kernel_rfl)
 ·rw [e2] at q1
  unfold fY
  rw [cH, iW, iW, gi, hσ]
  clear nx
  obtain ⟨a1, a2, a3, a4, a5, a6, a7, a8, a9, a10, a11⟩ := c
  simp only [encC] at hh ⊢
  cases ok
  ·simp (maxSteps := 4000000) -implicitDefEqProofs (disch := (refine ab ?_; first | assumption | omega | (simp [go_sem] <;> omega) | with_unfolding_all rfl | decide)) only [go_sem, Nat.reduceAdd, Nat.reduceSub, reduceIte, reduceCtorEq, hh, q1]
   exact ⟨_, [], ⟨rfl, by simp⟩, rfl⟩
  ·simp (maxSteps := 4000000) -implicitDefEqProofs (disch := (refine ab ?_; first | assumption | omega | (simp [go_sem] <;> omega) | with_unfolding_all rfl | decide)) only [go_sem, Nat.reduceAdd, Nat.reduceSub, reduceIte, reduceCtorEq, hh, q1]
   exact ⟨_, [], ⟨rfl, by simp⟩, rfl⟩
theorem Lw {c : Cal} {p : List UInt8} {ok : Bool} {σ : List AV} {h : AH} (hp : p.length ≤ 6) (hcat : c.cat.length ≤ 1000000000) (hh : h[0]? = some (.cells (encC c))) (hσ : dD jn σ = jo (.box 0 0) (.str ⟨p.toArray⟩) (.bool ok)) : fY cI σ h (fi11 c p ok) := by
 have q1 := iw (p := p) (n := 99) (h := []) (by omega)
 have q2 := kZ hcat
 rw [show (parC c.cat).2.2 = rigC c.cat from rfl] at q2
 have hlt : 0 < h.length := (List.getElem?_eq_some_iff.1 hh).1
 unfold fi11
 cases e2 : hasP p 99
 ·rw [e2] at q1
  unfold fY
  rw [cI, iW, iW, gi, hσ]
  have nx := fun ok σ v5 v157 v158 v159 v160 v161 v162 hσ => Kl (c := c) (p := p) (ok := ok) (σ := σ) (h := h) (v5 := v5) (v157 := v157) (v158 := v158) (v159 := v159) (v160 := v160) (v161 := v161) (v162 := v162) hp hh hσ
  obtain ⟨a1, a2, a3, a4, a5, a6, a7, a8, a9, a10, a11⟩ := c
  have e3 := str0 a9
  simp only [encC] at hh nx ⊢
  cases ok
  ·simp (maxSteps := 4000000) -implicitDefEqProofs (disch := (refine ab ?_; first | assumption | omega | (simp [go_sem] <;> omega) | with_unfolding_all rfl | decide)) only [go_sem, Nat.reduceAdd, Nat.reduceSub, reduceIte, reduceCtorEq, hh, q1]
   exact nx false _ aa aa aa aa aa aa aa (by kernel_rfl)
  ·cases e4 : a9.isEmpty
   ·rw [e4] at e3
    simp (maxSteps := 4000000) -implicitDefEqProofs (disch := (refine ab ?_; first | assumption | omega | (simp [go_sem] <;> omega) | with_unfolding_all rfl | decide)) only [go_sem, Nat.reduceAdd, Nat.reduceSub, reduceIte, reduceCtorEq, hh, q1, e3]
    exact nx false _ aa aa aa aa aa aa aa (by kernel_rfl)
   ·rw [e4] at e3
    simp (maxSteps := 4000000) -implicitDefEqProofs (disch := (refine ab ?_; first | assumption | omega | (simp [go_sem] <;> omega) | with_unfolding_all rfl | decide)) only [go_sem, Nat.reduceAdd, Nat.reduceSub, reduceIte, reduceCtorEq, hh, q1, e3]
    exact nx true _ aa aa aa aa aa aa aa (by kernel_rfl)
 ·rw [e2] at q1
  unfold fY
  rw [cI, iW, iW, gi, hσ]
  have hh2 : ∀ X : Bx, (h ++ [X])[0]? = some (.cells (encC c)) := fun X => by rw [List.getElem?_append_left hlt]; exact hh
  have nx := fun X ok σ v5 v157 v158 v159 v160 v161 v162 hσ => ID (Kl (c := c) (p := p) (ok := ok) (σ := σ) (h := h ++ [X]) (v5 := v5) (v157 := v157) (v158 := v158) (v159 := v159) (v160 := v160) (v161 := v161) (v162 := v162) hp (hh2 X) hσ)
  obtain ⟨a1, a2, a3, a4, a5, a6, a7, a8, a9, a10, a11⟩ := c
  simp only [encC] at hh nx q2 ⊢
  cases e5 : rigC a9
  ·rw [e5] at q2
   cases ok
   ·simp (maxSteps := 4000000) -implicitDefEqProofs (disch := (refine ab ?_; first | assumption | omega | (simp [go_sem] <;> omega) | with_unfolding_all rfl | decide)) only [go_sem, Nat.reduceAdd, Nat.reduceSub, reduceIte, reduceCtorEq, hh, q1, q2, ew, ey]
    exact nx _ false _ .any .any .any .any .any .any .any (by kernel_rfl)
   ·simp (maxSteps := 4000000) -implicitDefEqProofs (disch := (refine ab ?_; first | assumption | omega | (simp [go_sem] <;> omega) | with_unfolding_all rfl | decide)) only [go_sem, Nat.reduceAdd, Nat.reduceSub, reduceIte, reduceCtorEq, hh, q1, q2, ew, ey]
    exact nx _ false _ .any .any .any .any .any .any .any (by kernel_rfl)
  ·rw [e5] at q2
   cases ok
   ·simp (maxSteps := 4000000) -implicitDefEqProofs (disch := (refine ab ?_; first | assumption | omega | (simp [go_sem] <;> omega) | with_unfolding_all rfl | decide)) only [go_sem, Nat.reduceAdd, Nat.reduceSub, reduceIte, reduceCtorEq, hh, q1, q2, ew, ey]
    exact nx _ false _ .any .any .any .any .any .any .any (by kernel_rfl)
   ·simp (maxSteps := 4000000) -implicitDefEqProofs (disch := (refine ab ?_; first | assumption | omega | (simp [go_sem] <;> omega) | with_unfolding_all rfl | decide)) only [go_sem, Nat.reduceAdd, Nat.reduceSub, reduceIte, reduceCtorEq, hh, q1, q2, ew, ey]
    exact nx _ true _ .any .any .any .any .any .any .any (by kernel_rfl)
theorem Lx {c : Cal} {p : List UInt8} {ok : Bool} {σ : List AV} {h : AH} (hp : p.length ≤ 6) (hcat : c.cat.length ≤ 1000000000) (hc : okC c) (hh : h[0]? = some (.cells (encC c))) (hσ : dD jq σ = jr (.box 0 0) (.str ⟨p.toArray⟩) (.bool ok)) : fY dP σ h (fi10 c p ok) := by
 have nx := fun ok σ hσ => Lw (c := c) (p := p) (ok := ok) (σ := σ) (h := h) hp hcat hh hσ
 unfold fY fi10
 rw [dP, iW, gi, hσ]
 have q1 := iw (p := p) (n := 119) (h := []) (by omega)
 clear hcat hc
 obtain ⟨a1, a2, a3, a4, a5, a6, a7, a8, a9, a10, a11⟩ := c
 simp only [encC] at hh nx ⊢
 cases ok
 ·simp (maxSteps := 4000000) -implicitDefEqProofs (disch := (refine ab ?_; first | assumption | omega | (simp [go_sem] <;> omega) | with_unfolding_all rfl | decide)) only [go_sem, Nat.reduceAdd, Nat.reduceSub, reduceIte, reduceCtorEq, hh]
  exact nx false _ (by kernel_rfl)
 cases e3 : decide (a6 ≤ 1048576) <;> cases e4 : decide (a6 ≥ -1048576) <;> cases a11 <;> cases e2 : hasP p 119 <;> rw [e2] at q1
 all_goals
  simp (maxSteps := 4000000) -implicitDefEqProofs (disch := (refine ab ?_; first | assumption | omega | (simp [go_sem] <;> omega) | with_unfolding_all rfl | decide)) only [go_sem, Nat.reduceAdd, Nat.reduceSub, reduceIte, reduceCtorEq, hh, q1, e3, e4, Int.reduceNeg, Bool.not_true, Bool.not_false]
  refine nx _ _ ?_
  kernel_rfl
theorem rs_9 {c : Cal} {p : List UInt8} {ok : Bool} {σ : List AV} {h : AH} (hp : p.length ≤ 6) (hcat : c.cat.length ≤ 1000000000) (hc : okC c) (hh : h[0]? = some (.cells (encC c))) (hσ : dD jJ σ = jK (.box 0 0) (.str ⟨p.toArray⟩) (.bool ok)) : fY dZ σ h (fi9 c p ok) := by
 have nx := fun ok σ hσ => Lx (c := c) (p := p) (ok := ok) (σ := σ) (h := h) hp hcat hc hh hσ
 unfold fY fi9
 rw [dZ, iW, gi, hσ]
 have q1 := iw (p := p) (n := 109) (h := []) (by omega)
 clear hcat hc
 obtain ⟨a1, a2, a3, a4, a5, a6, a7, a8, a9, a10, a11⟩ := c
 simp only [encC] at hh nx ⊢
 cases ok
 ·simp (maxSteps := 4000000) -implicitDefEqProofs (disch := (refine ab ?_; first | assumption | omega | (simp [go_sem] <;> omega) | with_unfolding_all rfl | decide)) only [go_sem, Nat.reduceAdd, Nat.reduceSub, reduceIte, reduceCtorEq, hh]
  exact nx false _ (by kernel_rfl)
 cases e3 : decide (a7 ≥ 0) <;> cases e4 : decide (a7 ≤ 1048576) <;> cases e1 : (a7 == 0) <;> cases e2 : hasP p 109 <;> rw [e2] at q1
 all_goals
  simp (maxSteps := 4000000) -implicitDefEqProofs (disch := (refine ab ?_; first | assumption | omega | (simp [go_sem] <;> omega) | with_unfolding_all rfl | decide)) only [go_sem, Nat.reduceAdd, Nat.reduceSub, reduceIte, reduceCtorEq, hh, q1, e3, e4, e1]
  refine nx _ _ ?_
  kernel_rfl
theorem rs_8 {c : Cal} {p : List UInt8} {ok : Bool} {σ : List AV} {h : AH} (hp : p.length ≤ 6) (hcat : c.cat.length ≤ 1000000000) (hc : okC c) (hh : h[0]? = some (.cells (encC c))) (hσ : dD jL σ = jM (.box 0 0) (.str ⟨p.toArray⟩) (.bool ok)) : fY ea σ h (fi8 c p ok) := by
 have nx := fun ok σ hσ => rs_9 (c := c) (p := p) (ok := ok) (σ := σ) (h := h) hp hcat hc hh hσ
 unfold fY fi8
 rw [ea, iW, gi, hσ]
 have q1 := iw (p := p) (n := 116) (h := []) (by omega)
 have e9 : decide ((c.text.length : Int) ≤ 256) = decide (c.text.length ≤ 256) := by congr 1; exact propext (by omega)
 clear hcat hc
 obtain ⟨a1, a2, a3, a4, a5, a6, a7, a8, a9, a10, a11⟩ := c
 have e0 := len0 a8
 simp only [encC] at hh nx e9 ⊢
 cases ok
 ·simp (maxSteps := 4000000) -implicitDefEqProofs (disch := (refine ab ?_; first | assumption | omega | (simp [go_sem] <;> omega) | with_unfolding_all rfl | decide)) only [go_sem, Nat.reduceAdd, Nat.reduceSub, reduceIte, reduceCtorEq, hh]
  exact nx false _ (by kernel_rfl)
 cases e1 : a8.isEmpty <;> cases e2 : hasP p 116 <;> cases e3 : decide (a8.length ≤ 256) <;> rw [e2] at q1 <;> rw [e1] at e0 <;> rw [e3] at e9
 all_goals
  simp (maxSteps := 4000000) -implicitDefEqProofs (disch := (refine ab ?_; first | assumption | omega | (simp [go_sem] <;> omega) | with_unfolding_all rfl | decide)) only [go_sem, Nat.reduceAdd, Nat.reduceSub, reduceIte, reduceCtorEq, hh, q1, List.length_map, e0, e9]
  refine nx _ _ ?_
  kernel_rfl
theorem rs_7 {c : Cal} {p : List UInt8} {ok : Bool} {σ : List AV} {h : AH} (hp : p.length ≤ 6) (hcat : c.cat.length ≤ 1000000000) (hc : okC c) (hh : h[0]? = some (.cells (encC c))) (hσ : dD jN σ = jO (.box 0 0) (.str ⟨p.toArray⟩) (.bool ok)) : fY ec σ h (fi7 c p ok) := by
 have nx := fun ok σ hσ => rs_8 (c := c) (p := p) (ok := ok) (σ := σ) (h := h) hp hcat hc hh hσ
 unfold fY fi7
 rw [ec, iW, gi, hσ]
 have q1 := iw (p := p) (n := 115) (h := []) (by omega)
 have q2 := vY (l := c.seg) (h := []) (by have := hc.seg; omega)
 clear hcat hc
 obtain ⟨a1, a2, a3, a4, a5, a6, a7, a8, a9, a10, a11⟩ := c
 have e0 := len0 a10
 simp only [encC] at hh nx q2 ⊢
 cases ok
 ·simp (maxSteps := 4000000) -implicitDefEqProofs (disch := (refine ab ?_; first | assumption | omega | (simp [go_sem] <;> omega) | with_unfolding_all rfl | decide)) only [go_sem, Nat.reduceAdd, Nat.reduceSub, reduceIte, reduceCtorEq, hh]
  exact nx false _ (by kernel_rfl)
 cases e1 : a10.isEmpty <;> cases e2 : hasP p 115 <;> cases e3 : rigP a10 <;> rw [e2] at q1 <;> rw [e1] at e0 <;> rw [e3] at q2
 all_goals
  simp (maxSteps := 4000000) -implicitDefEqProofs (disch := (refine ab ?_; first | assumption | omega | (simp [go_sem] <;> omega) | with_unfolding_all rfl | decide)) only [go_sem, Nat.reduceAdd, Nat.reduceSub, reduceIte, reduceCtorEq, hh, q1, List.length_map, e0, q2]
  refine nx _ _ ?_
  kernel_rfl
theorem rs_6 {c : Cal} {p : List UInt8} {ok : Bool} {σ : List AV} {h : AH} (hp : p.length ≤ 6) (hcat : c.cat.length ≤ 1000000000) (hc : okC c) (ho : ∀ s ∈ c.own, s.length ≤ 1000000000) (he : ∀ e ∈ c.ent, e.1.length ≤ 1000000000) (hlb : ∀ e ∈ c.lab, e.1.length ≤ 1000000000) (hh : h[0]? = some (.cells (encC c))) (hσ : dD jP σ = jQ (.box 0 0) (.str ⟨p.toArray⟩) (.bool ok)) : fY ed σ h (fi6 c p ok) := by
 have nx := fun ok σ hσ => rs_7 (c := c) (p := p) (ok := ok) (σ := σ) (h := h) hp hcat hc hh hσ
 unfold fY fi6
 rw [ed, iW, gi, hσ]
 have q1 := iw (p := p) (n := 111) (h := []) (by omega)
 have q2 := Cd (l := c.own) (fun s hs => ho s hs) (by have := hc.own; omega)
 rw [uN] at q2
 clear hcat hc ho he hlb
 obtain ⟨a1, a2, a3, a4, a5, a6, a7, a8, a9, a10, a11⟩ := c
 have e0 := len0 a5
 simp only [encC] at hh nx q2 ⊢
 cases ok
 ·simp (maxSteps := 4000000) -implicitDefEqProofs (disch := (refine ab ?_; first | assumption | omega | (simp [go_sem] <;> omega) | with_unfolding_all rfl | decide)) only [go_sem, Nat.reduceAdd, Nat.reduceSub, reduceIte, reduceCtorEq, hh]
  exact nx false _ (by kernel_rfl)
 cases e1 : a5.isEmpty <;> cases e2 : hasP p 111 <;> cases e3 : rigO a5 <;> rw [e2] at q1 <;> rw [e1] at e0 <;> rw [e3] at q2
 all_goals
  simp (maxSteps := 4000000) -implicitDefEqProofs (disch := (refine ab ?_; first | assumption | omega | (simp [go_sem] <;> omega) | with_unfolding_all rfl | decide)) only [go_sem, Nat.reduceAdd, Nat.reduceSub, reduceIte, reduceCtorEq, hh, q1, List.length_map, e0, q2]
  refine nx _ _ ?_
  kernel_rfl
theorem rs_5 {c : Cal} {p : List UInt8} {ok : Bool} {σ : List AV} {h : AH} (hp : p.length ≤ 6) (hcat : c.cat.length ≤ 1000000000) (hc : okC c) (ho : ∀ s ∈ c.own, s.length ≤ 1000000000) (he : ∀ e ∈ c.ent, e.1.length ≤ 1000000000) (hlb : ∀ e ∈ c.lab, e.1.length ≤ 1000000000) (hh : h[0]? = some (.cells (encC c))) (hσ : dD jR σ = jS (.box 0 0) (.str ⟨p.toArray⟩) (.bool ok)) : fY eg σ h (fi5 c p ok) := by
 have nx := fun ok σ hσ => rs_6 (c := c) (p := p) (ok := ok) (σ := σ) (h := h) hp hcat hc ho he hlb hh hσ
 unfold fY fi5
 rw [eg, iW, gi, hσ]
 have q1 := iw (p := p) (n := 101) (h := []) (by omega)
 have q2 := sX (l := c.ent) (h := []) he
 clear hcat hc ho he hlb
 obtain ⟨a1, a2, a3, a4, a5, a6, a7, a8, a9, a10, a11⟩ := c
 have e0 := len0 a4
 simp only [encC] at hh nx q2 ⊢
 cases ok
 ·simp (maxSteps := 4000000) -implicitDefEqProofs (disch := (refine ab ?_; first | assumption | omega | (simp [go_sem] <;> omega) | with_unfolding_all rfl | decide)) only [go_sem, Nat.reduceAdd, Nat.reduceSub, reduceIte, reduceCtorEq, hh]
  exact nx false _ (by kernel_rfl)
 cases e1 : a4.isEmpty <;> cases e2 : hasP p 101 <;> cases e3 : rigL a4 <;> rw [e2] at q1 <;> rw [e1] at e0 <;> rw [e3] at q2
 all_goals
  simp (maxSteps := 4000000) -implicitDefEqProofs (disch := (refine ab ?_; first | assumption | omega | (simp [go_sem] <;> omega) | with_unfolding_all rfl | decide)) only [go_sem, Nat.reduceAdd, Nat.reduceSub, reduceIte, reduceCtorEq, hh, q1, List.length_map, e0, q2]
  refine nx _ _ ?_
  kernel_rfl
theorem rs_4 {c : Cal} {p : List UInt8} {ok : Bool} {σ : List AV} {h : AH} (hp : p.length ≤ 6) (hcat : c.cat.length ≤ 1000000000) (hc : okC c) (ho : ∀ s ∈ c.own, s.length ≤ 1000000000) (he : ∀ e ∈ c.ent, e.1.length ≤ 1000000000) (hlb : ∀ e ∈ c.lab, e.1.length ≤ 1000000000) (hh : h[0]? = some (.cells (encC c))) (hσ : dD jT σ = jU (.box 0 0) (.str ⟨p.toArray⟩) (.bool ok)) : fY ei σ h (fi4 c p ok) := by
 have nx := fun ok σ hσ => rs_5 (c := c) (p := p) (ok := ok) (σ := σ) (h := h) hp hcat hc ho he hlb hh hσ
 unfold fY fi4
 rw [ei, iW, gi, hσ]
 have q1 := iw (p := p) (n := 108) (h := []) (by omega)
 have q2 := sX (l := c.lab) (h := []) hlb
 clear hcat hc ho he hlb
 obtain ⟨a1, a2, a3, a4, a5, a6, a7, a8, a9, a10, a11⟩ := c
 have e0 := len0 a3
 simp only [encC] at hh nx q2 ⊢
 cases ok
 ·simp (maxSteps := 4000000) -implicitDefEqProofs (disch := (refine ab ?_; first | assumption | omega | (simp [go_sem] <;> omega) | with_unfolding_all rfl | decide)) only [go_sem, Nat.reduceAdd, Nat.reduceSub, reduceIte, reduceCtorEq, hh]
  exact nx false _ (by kernel_rfl)
 cases e1 : a3.isEmpty <;> cases e2 : hasP p 108 <;> cases e3 : rigL a3 <;> rw [e2] at q1 <;> rw [e1] at e0 <;> rw [e3] at q2
 all_goals
  simp (maxSteps := 4000000) -implicitDefEqProofs (disch := (refine ab ?_; first | assumption | omega | (simp [go_sem] <;> omega) | with_unfolding_all rfl | decide)) only [go_sem, Nat.reduceAdd, Nat.reduceSub, reduceIte, reduceCtorEq, hh, q1, List.length_map, e0, q2]
  refine nx _ _ ?_
  kernel_rfl
theorem rs_3 {c : Cal} {p : List UInt8} {ok : Bool} {σ : List AV} {h : AH} (hp : p.length ≤ 6) (hcat : c.cat.length ≤ 1000000000) (hc : okC c) (ho : ∀ s ∈ c.own, s.length ≤ 1000000000) (he : ∀ e ∈ c.ent, e.1.length ≤ 1000000000) (hlb : ∀ e ∈ c.lab, e.1.length ≤ 1000000000) (hh : h[0]? = some (.cells (encC c))) (hσ : dD jV σ = jW (.box 0 0) (.str ⟨p.toArray⟩) (.bool ok)) : fY ej σ h (fi3 c p ok) := by
 have nx := fun ok σ hσ => rs_4 (c := c) (p := p) (ok := ok) (σ := σ) (h := h) hp hcat hc ho he hlb hh hσ
 unfold fY fi3
 rw [ej, iW, gi, hσ]
 have q1 := iw (p := p) (n := 97) (h := []) (by omega)
 have q2 := vY (l := c.at_) (h := []) (by have := hc.at_; omega)
 clear hcat hc ho he hlb
 obtain ⟨a1, a2, a3, a4, a5, a6, a7, a8, a9, a10, a11⟩ := c
 have e0 := len0 a2
 simp only [encC] at hh nx q2 ⊢
 cases ok
 ·simp (maxSteps := 4000000) -implicitDefEqProofs (disch := (refine ab ?_; first | assumption | omega | (simp [go_sem] <;> omega) | with_unfolding_all rfl | decide)) only [go_sem, Nat.reduceAdd, Nat.reduceSub, reduceIte, reduceCtorEq, hh]
  exact nx false _ (by kernel_rfl)
 cases e1 : a2.isEmpty <;> cases e2 : hasP p 97 <;> cases e3 : rigP a2 <;> rw [e2] at q1 <;> rw [e1] at e0 <;> rw [e3] at q2
 all_goals
  simp (maxSteps := 4000000) -implicitDefEqProofs (disch := (refine ab ?_; first | assumption | omega | (simp [go_sem] <;> omega) | with_unfolding_all rfl | decide)) only [go_sem, Nat.reduceAdd, Nat.reduceSub, reduceIte, reduceCtorEq, hh, q1, List.length_map, e0, q2]
  refine nx _ _ ?_
  kernel_rfl
def refR (c : Cal) : Bool := fi3 c (pS c.op) (decide (c.op ≥ 0) && decide (c.op ≤ 20))
theorem y4 {c : Cal} (hc : okC c) (hcat : c.cat.length ≤ 1000000000) (ho : ∀ s ∈ c.own, s.length ≤ 1000000000) (he : ∀ e ∈ c.ent, e.1.length ≤ 1000000000) (hlb : ∀ e ∈ c.lab, e.1.length ≤ 1000000000) : run T 30 [.agg (encC c)] [] = some (.bool (refR c), []) := by
 have q1 := rl (op := c.op)
 have nx := fun ok σ hσ => rs_3 (c := c) (p := pS c.op) (ok := ok) (σ := σ) (h := [.cells (encC c)]) (Kk _) hcat hc ho he hlb rfl hσ
 have key : fY cS (.agg (encC c) :: List.replicate 190 aa) [] (refR c) := by
  unfold refR
  generalize pS c.op = p at *
  clear hcat hc ho he hlb
  obtain ⟨a1, a2, a3, a4, a5, a6, a7, a8, a9, a10, a11⟩ := c
  simp only [encC, fY] at nx ⊢
  rw [cS, fO, fN]
  cases e1 : decide (a1 ≥ 0) <;> cases e2 : decide (a1 ≤ 20)
  all_goals
   simp (maxSteps := 8000000) -implicitDefEqProofs (disch := (refine ab ?_; first | assumption | omega | (simp [go_sem] <;> omega) | with_unfolding_all rfl | decide)) only [go_sem, Nat.reduceAdd, Nat.reduceSub, reduceIte, reduceCtorEq, q1, e1, e2, List.replicate]
   obtain ⟨σ', js, h1, h2⟩ := nx _ _ (by kernel_rfl)
   exact ⟨σ', _, h1, h2⟩
 obtain ⟨σ', js, h1, h2⟩ := key
 rw [af T_30]
 show fin1 (den T cS _ []) _ [] = _
 have : ([AV.agg (encC c)] ++ List.replicate (191 - [AV.agg (encC c)].length) aa) = .agg (encC c) :: List.replicate 190 aa := rfl
 rw [show cC.ntmps = 191 from rfl, this, h1]
 simp (maxSteps := 4000000) -implicitDefEqProofs (disch := (refine ab ?_; first | assumption | omega | (simp [go_sem] <;> omega) | with_unfolding_all rfl | decide)) only [go_sem, Nat.reduceAdd, Nat.reduceSub, reduceIte, reduceCtorEq, cC, h2]
end Go.Proofs.YtibchilpaaiecaaGreatDoor.L
