/- Calls as words: what the words are; the program's words, walked. -/
import Derived.Test.YtibchilpaaiecaaGreatDoorL57
import Derived.Test.YtibchilpaaiecaaGreatDoorL39
import Derived.Test.YtibchilpaaiecaaGreatDoorL40
set_option linter.all false
set_option maxRecDepth 100000
set_option maxHeartbeats 32000000
namespace Go.Proofs.YtibchilpaaiecaaGreatDoor.L
open Go.Proofs.YtibchilpaaiecaaGreatDoor.M Go.Proofs.YtibchilpaaiecaaGreatDoor.F Go.Proofs
def hexD (n : Nat) : UInt8 := if n < 10 then UInt8.ofNat (48 + n) else UInt8.ofNat (87 + n)
def hexT : List UInt8 → List UInt8
 | [] => []
 | c :: r => hexD (c.toNat / 16) :: hexD (c.toNat % 16) :: hexT r
def bytW (l : List UInt8) : List UInt8 := if l = [] then [45] else hexT l
def wayT (p : List Int) : List UInt8 := if p = [] then [46] else dotT p
def ownT (l : List (List UInt8)) : List UInt8 := if l = [] then [45] else Lib.join l [44]
def nmL : List (List UInt8) := [[110, 111, 116, 104, 105, 110, 103], [99, 97, 116, 101, 103, 111, 114, 121], [115, 101, 103, 109, 101, 110, 116], [99, 111, 110, 116, 97, 105, 110, 101, 114], [116, 104, 114, 101, 97, 100], [103, 97, 116, 101], [115, 112, 97, 99, 101], [114, 101, 97, 100], [119, 114, 105, 116, 101], [114, 101, 115, 105, 122, 101], [108, 105, 115, 116], [115, 116, 97, 116], [102, 114, 101, 101], [109, 111, 118, 101], [108, 97, 98, 101, 108], [101, 110, 116, 101, 114], [100, 114, 111, 112], [109, 97, 112], [117, 110, 109, 97, 112], [108, 111, 97, 100], [115, 116, 111, 114, 101]]
def fmL : List (List UInt8) := [[], [], [97, 108, 110, 109], [97, 108, 110], [97, 108, 110, 111], [97, 108, 110, 101, 111, 109], [97, 108, 110], [97, 110, 109], [97, 110, 116], [97, 110], [97], [97], [97], [97, 110], [108], [97], [99], [97, 110, 115, 119], [97, 110], [97, 110, 109], [97, 110, 116]]
def nmT (op : Int) : List UInt8 := if 0 ≤ op ∧ op ≤ 20 then nmL.getD op.toNat [] else []
def fS (op : Int) : List UInt8 := if 0 ≤ op ∧ op ≤ 20 then fmL.getD op.toNat [] else []
def wrd (c : Cal) (p : UInt8) : List UInt8 :=
 if p = 97 then wayT c.at_ else if p = 115 then wayT c.seg else if p = 108 then labT c.lab else if p = 101 then labT c.ent else if p = 110 then Lib.itoa c.n else
 if p = 109 then Lib.itoa c.m else if p = 111 then ownT c.own else if p = 116 then bytW c.text else if p = 99 then c.cat else if c.write then [119] else [114]
def lL (c : Cal) : List (List UInt8) := nmT c.op :: (fS c.op).map (wrd c)
def cTxt (c : Cal) : List UInt8 := if eN c = true then Lib.join (lL c) [32] else []
theorem op21 {op : Int} (h : 0 ≤ op ∧ op ≤ 20) : op = 0 ∨ op = 1 ∨ (2 ≤ op ∧ op ≤ 20) := by omega
theorem Ft {op : Int} (h : 0 ≤ op ∧ op ≤ 20) : (nmL.map encT)[op.toNat]? = some (encT (nmT op)) := by
 rcases op21 h with rfl | rfl | h
 ·rfl
 ·rfl
 rcases dS h with rfl | rfl | rfl | rfl | rfl | rfl | rfl | rfl | rfl | rfl | rfl | rfl | rfl | rfl | rfl | rfl | rfl | rfl | rfl <;> rfl
theorem Fu {op : Int} (h : 0 ≤ op ∧ op ≤ 20) : (fmL.map encT)[op.toNat]? = some (encT (fS op)) := by
 rcases op21 h with rfl | rfl | h
 ·rfl
 ·rfl
 rcases dS h with rfl | rfl | rfl | rfl | rfl | rfl | rfl | rfl | rfl | rfl | rfl | rfl | rfl | rfl | rfl | rfl | rfl | rfl | rfl <;> rfl
theorem nV (op : Int) : (fS op).length ≤ 6 ∧ ∀ p ∈ fS op, p = 97 ∨ p = 115 ∨ p = 108 ∨ p = 101 ∨ p = 110 ∨ p = 109 ∨ p = 111 ∨ p = 116 ∨ p = 99 ∨ p = 119 := by
 by_cases hop : 0 ≤ op ∧ op ≤ 20
 ·rcases op21 hop with rfl | rfl | h
  ·decide
  ·decide
  rcases dS h with rfl | rfl | rfl | rfl | rfl | rfl | rfl | rfl | rfl | rfl | rfl | rfl | rfl | rfl | rfl | rfl | rfl | rfl | rfl <;> decide
 ·unfold fS; rw [if_neg hop]; exact ⟨by simp, fun p hp => by cases hp⟩
theorem H4 (op : Int) : (nmT op).length ≤ 9 := by
 by_cases hop : 0 ≤ op ∧ op ≤ 20
 ·rcases op21 hop with rfl | rfl | h
  ·decide
  ·decide
  rcases dS h with rfl | rfl | rfl | rfl | rfl | rfl | rfl | rfl | rfl | rfl | rfl | rfl | rfl | rfl | rfl | rfl | rfl | rfl | rfl <;> decide
 ·unfold nmT; rw [if_neg hop]; simp
theorem uH : run T 26 [] [] = some (.sl .ex (nmL.map encT), []) := fm (n := 300) (by kernel_rfl)
theorem uI : run T 27 [] [] = some (.sl .ex (fmL.map encT), []) := fm (n := 300) (by kernel_rfl)
theorem D8 {op : Int} : run T 8 [.int .i64 op] [] = some (.str ⟨(nmT op).toArray⟩, []) := by
 have h1 := uH
 have h2 := @Ft op
 rw [af T_8]
 unfold nmT at h2 ⊢
 by_cases h0 : op < 0
 ·have d1 : decide (op < 0) = true := decide_eq_true h0
  rw [if_neg (by omega)]
  simp (maxSteps := 2000000) -implicitDefEqProofs (disch := (refine ab ?_; first | assumption | omega | (simp [go_sem] <;> omega) | with_unfolding_all rfl | decide)) only [go_sem, Nat.reduceAdd, Nat.reduceSub, reduceIte, reduceCtorEq, eH, d1]
 ·have d1 : decide (op < 0) = false := decide_eq_false h0
  by_cases h3 : op > 20
  ·have d2 : decide (op > 20) = true := decide_eq_true h3
   rw [if_neg (by omega)]
   simp (maxSteps := 2000000) -implicitDefEqProofs (disch := (refine ab ?_; first | assumption | omega | (simp [go_sem] <;> omega) | with_unfolding_all rfl | decide)) only [go_sem, Nat.reduceAdd, Nat.reduceSub, reduceIte, reduceCtorEq, eH, d1, d2]
  ·have d2 : decide (op > 20) = false := decide_eq_false h3
   have hop : 0 ≤ op ∧ op ≤ 20 := by omega
   have h2 := h2 hop
   rw [if_pos hop] at h2 ⊢
   simp only [encT] at h2
   generalize nmL.map encT = L at *
   simp (maxSteps := 2000000) -implicitDefEqProofs (disch := (refine ab ?_; first | assumption | omega | (simp [go_sem] <;> omega) | with_unfolding_all rfl | decide)) only [go_sem, Nat.reduceAdd, Nat.reduceSub, reduceIte, reduceCtorEq, eH, d1, d2, h1, h2]
theorem eqz {n : Nat} (h : n ≠ 0) : ((n : Int) == 0) = false := by simp; omega
theorem B0 {l : List Int} (hl : l.length ≤ 1000000) (hi : inI l = true) : run T 66 [.sl .sh (l.map encI)] [] = some (.str ⟨(wayT l).toArray⟩, []) := by
 rw [af T_66]
 unfold wayT
 by_cases h0 : l = []
 ·subst h0
  rw [if_pos rfl]
  simp (maxSteps := 2000000) -implicitDefEqProofs (disch := (refine ab ?_; first | assumption | omega | (simp [go_sem] <;> omega) | with_unfolding_all rfl | decide)) only [go_sem, Nat.reduceAdd, Nat.reduceSub, reduceIte, reduceCtorEq, gr, List.map_nil, show (((0 : Nat) : Int) == 0) = true from rfl]
 ·rw [if_neg h0]
  have hz := eqz (n := l.length) fun e => h0 (List.length_eq_zero_iff.1 e)
  have h1 := Bu (l := l) (h := []) hl hi
  simp (maxSteps := 2000000) -implicitDefEqProofs (disch := (refine ab ?_; first | assumption | omega | (simp [go_sem] <;> omega) | with_unfolding_all rfl | decide)) only [go_sem, Nat.reduceAdd, Nat.reduceSub, reduceIte, reduceCtorEq, gr, List.length_map, hz, h1]
theorem H5 {l : List (List UInt8)} (hl : l.length ≤ 1000000) (hc : (Lib.join l [44]).length ≤ 140737488355328) : run T 68 [.sl .sh (l.map encT)] [] = some (.str ⟨(ownT l).toArray⟩, []) := by
 rw [af T_68]
 unfold ownT
 by_cases h0 : l = []
 ·subst h0
  rw [if_pos rfl]
  simp (maxSteps := 2000000) -implicitDefEqProofs (disch := (refine ab ?_; first | assumption | omega | (simp [go_sem] <;> omega) | with_unfolding_all rfl | decide)) only [go_sem, Nat.reduceAdd, Nat.reduceSub, reduceIte, reduceCtorEq, gu, List.map_nil, show (((0 : Nat) : Int) == 0) = true from rfl]
 ·rw [if_neg h0]
  have hz := eqz (n := l.length) fun e => h0 (List.length_eq_zero_iff.1 e)
  have h1 := sT (l := l) (sep := [44]) (h := []) (by omega) hc
  simp (maxSteps := 2000000) -implicitDefEqProofs (disch := (refine ab ?_; first | assumption | omega | (simp [go_sem] <;> omega) | with_unfolding_all rfl | decide)) only [go_sem, Nat.reduceAdd, Nat.reduceSub, reduceIte, reduceCtorEq, gu, List.length_map, hz, h1]
theorem B2 {n : Nat} (h : n < 16) : (⟨#[48, 49, 50, 51, 52, 53, 54, 55, 56, 57, 97, 98, 99, 100, 101, 102]⟩ : ByteArray)[((n : Nat) : Int).toNat]? = some (hexD n) := by
 rw [Int.toNat_natCast]
 have : n = 0 ∨ n = 1 ∨ n = 2 ∨ n = 3 ∨ n = 4 ∨ n = 5 ∨ n = 6 ∨ n = 7 ∨ n = 8 ∨ n = 9 ∨ n = 10 ∨ n = 11 ∨ n = 12 ∨ n = 13 ∨ n = 14 ∨ n = 15 := by omega
 rcases this with rfl | rfl | rfl | rfl | rfl | rfl | rfl | rfl | rfl | rfl | rfl | rfl | rfl | rfl | rfl | rfl <;> rfl
theorem hi4 (c : UInt8) : ((c.toNat : Int)).fdiv (2 ^ (min ((4 : Int).toNat) (kb .u8))) = ((c.toNat / 16 : Nat) : Int) := by
 rw [show min ((4 : Int).toNat) (kb .u8) = 4 from rfl, Int.fdiv_eq_ediv_of_nonneg _ (by decide)]
 omega
theorem lo4 (c : UInt8) : IntKind.u8.wrap ((BitVec.ofInt (kb .u8) (c.toNat : Int) &&& BitVec.ofInt (kb .u8) 15).toNat) = ((c.toNat % 16 : Nat) : Int) := by
 have h1 : (BitVec.ofInt (kb .u8) (c.toNat : Int) &&& BitVec.ofInt (kb .u8) 15).toNat = c.toNat % 16 := by
  show ((BitVec.ofInt 8 (c.toNat : Int) &&& BitVec.ofInt 8 15) : BitVec 8).toNat = c.toNat % 16
  have := c.toNat_lt
  rw [BitVec.ofInt_natCast, BitVec.toNat_and, BitVec.toNat_ofNat, Nat.mod_eq_of_lt (by omega)]
  exact Nat.and_two_pow_sub_one_eq_mod _ 4
 rw [h1, w8]
 omega
theorem xH : ∀ l : List UInt8, (hexT l).length = 2 * l.length
 | [] => rfl
 | c :: l => by simp only [hexT, List.length_cons, xH l]; omega
theorem D9 {l : List UInt8} {h : AH} (hl : l.length ≤ 1000000) : ∀ (d i : Nat) (a : List UInt8), d + i = l.length → a.length ≤ 2 * i →
  den T (.loop jE) (n7 (ow (a.map encB)) (.sl .sh (l.map encB)) (.int .i64 l.length) (.int .i64 i)) h = some (.exit 0, n8 (ow ((a ++ hexT (l.drop i)).map encB)), h) := by
 intro d
 induction d with
 | zero =>
  intro i a hd ha
  have hd' : decide ((i : Int) < l.length) = false := decide_eq_false (by omega)
  rw [List.drop_eq_nil_of_le (by omega), hexT, List.append_nil]
  rw [ae]
  simp -implicitDefEqProofs (disch := (refine ab ?_; first | assumption | omega | (simp [go_sem] <;> omega) | with_unfolding_all rfl | decide)) only [go_sem, Nat.reduceAdd, Nat.reduceSub, reduceIte, reduceCtorEq, hd']
 | succ d ih =>
  intro i a hd ha
  have hib : i < l.length := by omega
  have hd' : decide ((i : Int) < l.length) = true := decide_eq_true (by omega)
  have hge : (l.map encB)[(i : Int).toNat]? = some (encB l[i]) := by simp [hib]
  have hdr : l.drop i = l[i] :: l.drop (i + 1) := List.drop_eq_getElem_cons hib
  have e7 := incP (n := i) (by omega)
  rw [hdr, hexT]
  generalize l[i] = c at *
  have ih' := ih (i + 1) (a ++ [hexD (c.toNat / 16), hexD (c.toNat % 16)]) (by omega) (by simp only [List.length_append, List.length_cons, List.length_nil]; omega)
  have hc := c.toNat_lt
  have g1 := B2 (n := c.toNat / 16) (by omega)
  have g2 := B2 (n := c.toNat % 16) (by omega)
  have e1 := hi4 c
  have e2 := lo4 c
  have hml : (a.map encB).length = a.length := List.length_map ..
  have hap : (a ++ [hexD (c.toNat / 16), hexD (c.toNat % 16)]).map encB = a.map encB ++ [[.int .u8 (hexD (c.toNat / 16)).toNat], [.int .u8 (hexD (c.toNat % 16)).toNat]] := by simp [encB]
  rw [hap] at ih'
  simp only [List.append_assoc, List.cons_append, List.nil_append] at ih'
  simp only [encB] at hge
  rw [ae]
  simp (maxSteps := 2000000) -implicitDefEqProofs (disch := (refine ab ?_; first | assumption | omega | (simp [go_sem] <;> omega) | with_unfolding_all rfl | decide)) only [go_sem, Nat.reduceAdd, Nat.reduceSub, reduceIte, reduceCtorEq, hd', hge, e1, e2, g1, g2, e7, hml]
  exact ih'
theorem B3 {l : List UInt8} (hl : l.length ≤ 1000000) : run T 69 [.sl .sh (l.map encB)] [] = some (.str ⟨(bytW l).toArray⟩, []) := by
 rw [af T_69]
 unfold bytW
 by_cases h0 : l = []
 ·subst h0
  rw [if_pos rfl]
  simp (maxSteps := 2000000) -implicitDefEqProofs (disch := (refine ab ?_; first | assumption | omega | (simp [go_sem] <;> omega) | with_unfolding_all rfl | decide)) only [go_sem, Nat.reduceAdd, Nat.reduceSub, reduceIte, reduceCtorEq, eW, List.map_nil, show (((0 : Nat) : Int) == 0) = true from rfl]
 ·rw [if_neg h0]
  have hz := eqz (n := l.length) fun e => h0 (List.length_eq_zero_iff.1 e)
  have h1 := D9 (h := []) hl l.length 0 [] (by omega) (by simp)
  simp only [show ((0 : Nat) : Int) = 0 from rfl, List.drop_zero, List.nil_append, List.map_nil] at h1
  simp (maxSteps := 2000000) -implicitDefEqProofs (disch := (refine ab ?_; first | assumption | omega | (simp [go_sem] <;> omega) | with_unfolding_all rfl | decide)) only [go_sem, Nat.reduceAdd, Nat.reduceSub, reduceIte, reduceCtorEq, eW, List.length_map, hz, h1]
end Go.Proofs.YtibchilpaaiecaaGreatDoor.L
/- Calls as words: a part's word, a call's text: walked. -/
set_option linter.all false
set_option maxRecDepth 100000
set_option maxHeartbeats 32000000
namespace Go.Proofs.YtibchilpaaiecaaGreatDoor.L
open Go.Proofs.YtibchilpaaiecaaGreatDoor.M Go.Proofs.YtibchilpaaiecaaGreatDoor.F Go.Proofs
theorem gf {l : List Ent} (h : rigL l = true) : (∀ e ∈ l, okE e) ∧ l.length ≤ 8 := by
 simp only [rigL, Bool.and_eq_true, decide_eq_true_eq] at h
 refine ⟨fun e he => ?_, h.1⟩
 obtain ⟨h1, h2, h3, _⟩ := mU l none h.2 e he
 exact ⟨by omega, by omega, by omega⟩
theorem xI {l : List (List UInt8)} (h : rigO l = true) : (Lib.join l [44]).length ≤ 10000 := by
 obtain ⟨h8, hs⟩ := jA h
 have := join_le (B := 60) (sep := [44]) (l := l) fun x hx => (hs x hx).2
 rw [List.length_singleton] at this
 have : l.length * (60 + 1) ≤ 8 * 61 := Nat.mul_le_mul h8 (Nat.le_refl _)
 omega
theorem B4 {l : List Ent} (h : rigL l = true) : (labT l).length ≤ 9000000 := by
 obtain ⟨h1, h2⟩ := gf h
 unfold labT
 split
 ·simp
 ·have := join_le (B := 1048600) (sep := [44]) (l := l.map lblT) (fun x hx => by obtain ⟨e, he, rfl⟩ := List.mem_map.1 hx; exact xF (h1 e he))
  rw [List.length_map, List.length_singleton] at this
  have : l.length * (1048600 + 1) ≤ 8 * 1048601 := Nat.mul_le_mul h2 (Nat.le_refl _)
  omega
theorem B5 {l : List Int} (h : rigP l = true) : (wayT l).length ≤ 200 := by
 unfold wayT
 split
 ·simp
 ·obtain ⟨h6, hk⟩ := fG h
  have := AB l fun x hx => by have := hk x hx; omega
  omega
theorem H6 {c : Cal} (h : eN c = true) (p : UInt8) : (wrd c p).length ≤ 9000000 := by
 have r := rf h
 unfold wrd
 repeat' split
 ·have := B5 r.at_; omega
 ·have := B5 r.seg; omega
 ·exact B4 r.lab
 ·exact B4 r.ent
 ·have := na (n := c.n) (by have := r.n; omega) (by have := r.n; omega); omega
 ·have := na (n := c.m) (by have := r.m; omega) (by have := r.m; omega); omega
 ·unfold ownT
  split
  ·simp
  ·have := xI r.own; omega
 ·unfold bytW
  split
  ·simp
  ·rw [xH]; have := r.text; omega
 ·have := r.cat; omega
 ·simp
 ·simp
theorem xJ {c : Cal} {p : UInt8} (hr : eN c = true) (hp : p = 97 ∨ p = 115 ∨ p = 108 ∨ p = 101 ∨ p = 110 ∨ p = 109 ∨ p = 111 ∨ p = 116 ∨ p = 99 ∨ p = 119) : run T 28 [.agg (encC c), .int .u8 p.toNat] [] = some (.str ⟨(wrd c p).toArray⟩, []) := by
 have r := rf hr
 have q1 := B0 (l := c.at_) (by have := (fG r.at_).1; omega) (sN r.at_)
 have q2 := B0 (l := c.seg) (by have := (fG r.seg).1; omega) (sN r.seg)
 have q3 := vX (l := c.lab) (gf r.lab).1 (by have := (gf r.lab).2; omega)
 have q4 := vX (l := c.ent) (gf r.ent).1 (by have := (gf r.ent).2; omega)
 have q5 := ox (n := c.n) (h := []) (by have := r.n; omega) (by have := r.n; omega)
 have q6 := ox (n := c.m) (h := []) (by have := r.m; omega) (by have := r.m; omega)
 have q7 := H5 (l := c.own) (by have := (jA r.own).1; omega) (by have := xI r.own; omega)
 have q8 := B3 (l := c.text) (by have := r.text; omega)
 rw [af T_28]
 clear r hr
 obtain ⟨a1, a2, a3, a4, a5, a6, a7, a8, a9, a10, a11⟩ := c
 simp only [encC] at q1 q2 q3 q4 q5 q6 q7 q8 ⊢
 rcases hp with rfl | rfl | rfl | rfl | rfl | rfl | rfl | rfl | rfl | rfl
 ·rw [show ((UInt8.toNat 97 : Nat) : Int) = 97 from rfl, show wrd ⟨a1, a2, a3, a4, a5, a6, a7, a8, a9, a10, a11⟩ 97 = wayT a2 from rfl]
  simp (maxSteps := 4000000) -implicitDefEqProofs (disch := (refine ab ?_; first | assumption | omega | (simp [go_sem] <;> omega) | with_unfolding_all rfl | decide)) only [go_sem, Nat.reduceAdd, Nat.reduceSub, reduceIte, reduceCtorEq, aX, Int.reduceBEq, q1, q2, q3, q4, q5, q6, q7, q8]
 ·rw [show ((UInt8.toNat 115 : Nat) : Int) = 115 from rfl, show wrd ⟨a1, a2, a3, a4, a5, a6, a7, a8, a9, a10, a11⟩ 115 = wayT a10 from rfl]
  simp (maxSteps := 4000000) -implicitDefEqProofs (disch := (refine ab ?_; first | assumption | omega | (simp [go_sem] <;> omega) | with_unfolding_all rfl | decide)) only [go_sem, Nat.reduceAdd, Nat.reduceSub, reduceIte, reduceCtorEq, aX, Int.reduceBEq, q1, q2, q3, q4, q5, q6, q7, q8]
 ·rw [show ((UInt8.toNat 108 : Nat) : Int) = 108 from rfl, show wrd ⟨a1, a2, a3, a4, a5, a6, a7, a8, a9, a10, a11⟩ 108 = labT a3 from rfl]
  simp (maxSteps := 4000000) -implicitDefEqProofs (disch := (refine ab ?_; first | assumption | omega | (simp [go_sem] <;> omega) | with_unfolding_all rfl | decide)) only [go_sem, Nat.reduceAdd, Nat.reduceSub, reduceIte, reduceCtorEq, aX, Int.reduceBEq, q1, q2, q3, q4, q5, q6, q7, q8]
 ·rw [show ((UInt8.toNat 101 : Nat) : Int) = 101 from rfl, show wrd ⟨a1, a2, a3, a4, a5, a6, a7, a8, a9, a10, a11⟩ 101 = labT a4 from rfl]
  simp (maxSteps := 4000000) -implicitDefEqProofs (disch := (refine ab ?_; first | assumption | omega | (simp [go_sem] <;> omega) | with_unfolding_all rfl | decide)) only [go_sem, Nat.reduceAdd, Nat.reduceSub, reduceIte, reduceCtorEq, aX, Int.reduceBEq, q1, q2, q3, q4, q5, q6, q7, q8]
 ·rw [show ((UInt8.toNat 110 : Nat) : Int) = 110 from rfl, show wrd ⟨a1, a2, a3, a4, a5, a6, a7, a8, a9, a10, a11⟩ 110 = Lib.itoa a6 from rfl]
  simp (maxSteps := 4000000) -implicitDefEqProofs (disch := (refine ab ?_; first | assumption | omega | (simp [go_sem] <;> omega) | with_unfolding_all rfl | decide)) only [go_sem, Nat.reduceAdd, Nat.reduceSub, reduceIte, reduceCtorEq, aX, Int.reduceBEq, q1, q2, q3, q4, q5, q6, q7, q8]
 ·rw [show ((UInt8.toNat 109 : Nat) : Int) = 109 from rfl, show wrd ⟨a1, a2, a3, a4, a5, a6, a7, a8, a9, a10, a11⟩ 109 = Lib.itoa a7 from rfl]
  simp (maxSteps := 4000000) -implicitDefEqProofs (disch := (refine ab ?_; first | assumption | omega | (simp [go_sem] <;> omega) | with_unfolding_all rfl | decide)) only [go_sem, Nat.reduceAdd, Nat.reduceSub, reduceIte, reduceCtorEq, aX, Int.reduceBEq, q1, q2, q3, q4, q5, q6, q7, q8]
 ·rw [show ((UInt8.toNat 111 : Nat) : Int) = 111 from rfl, show wrd ⟨a1, a2, a3, a4, a5, a6, a7, a8, a9, a10, a11⟩ 111 = ownT a5 from rfl]
  simp (maxSteps := 4000000) -implicitDefEqProofs (disch := (refine ab ?_; first | assumption | omega | (simp [go_sem] <;> omega) | with_unfolding_all rfl | decide)) only [go_sem, Nat.reduceAdd, Nat.reduceSub, reduceIte, reduceCtorEq, aX, Int.reduceBEq, q1, q2, q3, q4, q5, q6, q7, q8]
 ·rw [show ((UInt8.toNat 116 : Nat) : Int) = 116 from rfl, show wrd ⟨a1, a2, a3, a4, a5, a6, a7, a8, a9, a10, a11⟩ 116 = bytW a8 from rfl]
  simp (maxSteps := 4000000) -implicitDefEqProofs (disch := (refine ab ?_; first | assumption | omega | (simp [go_sem] <;> omega) | with_unfolding_all rfl | decide)) only [go_sem, Nat.reduceAdd, Nat.reduceSub, reduceIte, reduceCtorEq, aX, Int.reduceBEq, q1, q2, q3, q4, q5, q6, q7, q8]
 ·rw [show ((UInt8.toNat 99 : Nat) : Int) = 99 from rfl, show wrd ⟨a1, a2, a3, a4, a5, a6, a7, a8, a9, a10, a11⟩ 99 = a9 from rfl]
  simp (maxSteps := 4000000) -implicitDefEqProofs (disch := (refine ab ?_; first | assumption | omega | (simp [go_sem] <;> omega) | with_unfolding_all rfl | decide)) only [go_sem, Nat.reduceAdd, Nat.reduceSub, reduceIte, reduceCtorEq, aX, Int.reduceBEq, q1, q2, q3, q4, q5, q6, q7, q8]
 ·rw [show ((UInt8.toNat 119 : Nat) : Int) = 119 from rfl]
  cases a11
  ·rw [show wrd ⟨a1, a2, a3, a4, a5, a6, a7, a8, a9, a10, false⟩ 119 = [114] from rfl]
   simp (maxSteps := 4000000) -implicitDefEqProofs (disch := (refine ab ?_; first | assumption | omega | (simp [go_sem] <;> omega) | with_unfolding_all rfl | decide)) only [go_sem, Nat.reduceAdd, Nat.reduceSub, reduceIte, reduceCtorEq, aX, Int.reduceBEq]
  ·rw [show wrd ⟨a1, a2, a3, a4, a5, a6, a7, a8, a9, a10, true⟩ 119 = [119] from rfl]
   simp (maxSteps := 4000000) -implicitDefEqProofs (disch := (refine ab ?_; first | assumption | omega | (simp [go_sem] <;> omega) | with_unfolding_all rfl | decide)) only [go_sem, Nat.reduceAdd, Nat.reduceSub, reduceIte, reduceCtorEq, aX, Int.reduceBEq]
theorem Ea {c : Cal} (hr : eN c = true) : ∀ (d i : Nat) (ws : List (List UInt8)), d + i = (fS c.op).length → ws.length ≤ 10 + i →
  den U (.loop il) (kg (.box 0 0) (ow (ws.map encT)) (.sl .sh ((fS c.op).map encB)) (.int .i64 (fS c.op).length) (.int .i64 i)) [.cells (encC c)] = some (.exit 0, kh (ow ((ws ++ ((fS c.op).drop i).map (wrd c)).map encT)), [.cells (encC c)]) := by
 intro d
 induction d with
 | zero =>
  intro i ws hd ha
  have hd' : decide ((i : Int) < (fS c.op).length) = false := decide_eq_false (by omega)
  rw [List.drop_eq_nil_of_le (by omega), List.map_nil, List.append_nil]
  rw [ae]
  simp -implicitDefEqProofs (disch := (refine ab ?_; first | assumption | omega | (simp [go_sem] <;> omega) | with_unfolding_all rfl | decide)) only [go_sem, Nat.reduceAdd, Nat.reduceSub, reduceIte, reduceCtorEq, hd']
 | succ d ih =>
  intro i ws hd ha
  have hib : i < (fS c.op).length := by omega
  have hd' : decide ((i : Int) < (fS c.op).length) = true := decide_eq_true (by omega)
  have hge : ((fS c.op).map encB)[(i : Int).toNat]? = some (encB (fS c.op)[i]) := by simp [hib]
  have hdr : (fS c.op).drop i = (fS c.op)[i] :: (fS c.op).drop (i + 1) := List.drop_eq_getElem_cons hib
  have h6 := (nV c.op).1
  have e7 := incP (n := i) (by omega)
  have hp := (nV c.op).2 _ (List.getElem_mem hib)
  rw [hdr, List.map_cons]
  generalize (fS c.op)[i] = p at *
  have ih' := ih (i + 1) (ws ++ [wrd c p]) (by omega) (by simp only [List.length_append, List.length_cons, List.length_nil]; omega)
  have q := upU (xJ hr hp)
  generalize wrd c p = w at *
  have hml : (ws.map encT).length = ws.length := List.length_map ..
  rw [show (ws ++ [w]).map encT = ws.map encT ++ [[.str ⟨w.toArray⟩]] by simp [encT]] at ih'
  simp only [List.append_assoc, List.cons_append, List.nil_append] at ih'
  simp only [encB] at hge
  generalize fS c.op = f at *
  clear hp hr ih
  obtain ⟨a1, a2, a3, a4, a5, a6, a7, a8, a9, a10, a11⟩ := c
  simp only [encC] at q ih' ⊢
  rw [ae]
  simp (maxSteps := 4000000) -implicitDefEqProofs (disch := (refine ab ?_; first | assumption | omega | (simp [go_sem] <;> omega) | with_unfolding_all rfl | decide)) only [go_sem, Nat.reduceAdd, Nat.reduceSub, reduceIte, reduceCtorEq, hd', hge, q, e7, hml]
  exact ih'
theorem H7 {c : Cal} (hr : eN c = true) : ∃ V, (V = ow ((lL c).map encT) ∨ V = .sl .ex ((lL c).map encT)) ∧
  den U (.loop il) (kg (.box 0 0) (.sl .ex [encT (nmT c.op)]) (.sl .sh ((fS c.op).map encB)) (.int .i64 (fS c.op).length) (.int .i64 0)) [.cells (encC c)] = some (.exit 0, kh V, [.cells (encC c)]) := by
 unfold lL
 have h6 := (nV c.op).1
 have key := Ea hr
 have hfit := (nV c.op).2
 cases hf : fS c.op with
 | nil =>
  refine ⟨_, .inr rfl, ?_⟩
  have hd' : decide ((0 : Int) < ((0 : Nat) : Int)) = false := rfl
  rw [List.map_nil, List.map_cons, List.map_nil, List.map_nil, ae]
  simp -implicitDefEqProofs (disch := (refine ab ?_; first | assumption | omega | (simp [go_sem] <;> omega) | with_unfolding_all rfl | decide)) only [go_sem, Nat.reduceAdd, Nat.reduceSub, reduceIte, reduceCtorEq, hd']
 | cons p ps =>
  refine ⟨_, .inl rfl, ?_⟩
  rw [hf] at h6 key hfit
  have hp := hfit p (by simp)
  have ih' := key ps.length 1 [nmT c.op, wrd c p] (by simp <;> omega) (by simp)
  have hd' : decide ((0 : Int) < ((p :: ps).length : Int)) = true := decide_eq_true (by simp <;> omega)
  have hge : ((p :: ps).map encB)[(0 : Int).toNat]? = some (encB p) := by simp
  have q := upU (xJ hr hp)
  rw [show List.drop 1 (p :: ps) = ps from rfl] at ih'
  rw [List.map_cons (f := wrd c)]
  generalize wrd c p = w at *
  generalize ps.map (wrd c) = ws at *
  generalize nmT c.op = nm at *
  generalize p :: ps = f at *
  simp only [encB] at hge
  simp only [List.map_cons, List.map_nil, List.cons_append, List.nil_append, encT] at ih' ⊢
  clear hp hr key hfit
  obtain ⟨a1, a2, a3, a4, a5, a6, a7, a8, a9, a10, a11⟩ := c
  simp only [encC] at q ih' ⊢
  have e7 : IntKind.i64.wrap (0 + 1) = 1 := rfl
  rw [ae]
  simp (maxSteps := 4000000) -implicitDefEqProofs (disch := (refine ab ?_; first | assumption | omega | (simp [go_sem] <;> omega) | with_unfolding_all rfl | decide)) only [go_sem, Nat.reduceAdd, Nat.reduceSub, reduceIte, reduceCtorEq, hd', hge, q, e7]
  exact ih'
theorem Eb {c : Cal} (hr : eN c = true) : (lL c).length ≤ 7 ∧ (Lib.join (lL c) [32]).length ≤ 70000000 := by
 have h6 := (nV c.op).1
 have hl : (lL c).length ≤ 7 := by simp only [lL, List.length_cons, List.length_map]; omega
 have := join_le (B := 9000000) (sep := [32]) (l := lL c) fun x hx => by
  rcases List.mem_cons.1 hx with rfl | hx
  ·have := H4 c.op; omega
  ·obtain ⟨p, _, rfl⟩ := List.mem_map.1 hx; exact H6 hr p
 rw [List.length_singleton] at this
 have : (lL c).length * (9000000 + 1) ≤ 7 * 9000001 := Nat.mul_le_mul hl (Nat.le_refl _)
 exact ⟨hl, by omega⟩
theorem Ec {c : Cal} (hc : okC c) : run U 10 [.agg (encC c)] [] = some (.str ⟨(cTxt c).toArray⟩, []) := by
 have q1 := BO hc
 have q2 := upU (D8 (op := c.op))
 have q3 := upU uI
 rw [af (show U 10 = some (.code dN) from rfl)]
 unfold cTxt
 cases hr : eN c with
 | false =>
  rw [hr] at q1
  rw [if_neg (by simp)]
  clear hc
  obtain ⟨a1, a2, a3, a4, a5, a6, a7, a8, a9, a10, a11⟩ := c
  simp only [encC] at q1 ⊢
  simp (maxSteps := 4000000) -implicitDefEqProofs (disch := (refine ab ?_; first | assumption | omega | (simp [go_sem] <;> omega) | with_unfolding_all rfl | decide)) only [go_sem, Nat.reduceAdd, Nat.reduceSub, reduceIte, reduceCtorEq, dN, q1, Bool.not_false]
 | true =>
  rw [hr] at q1
  rw [if_pos rfl]
  obtain ⟨w1, w2⟩ := Eb hr
  have q4 := Fu (op := c.op) (rf hr).op
  have h0 : 0 ≤ c.op := (rf hr).op.1
  obtain ⟨V, hV, q5⟩ := H7 hr
  have q6 := fun h => upU (sT (l := lL c) (sep := [32]) (h := h) (by omega) (by omega))
  simp only [encT] at q5 q4
  generalize lL c = ws at *
  generalize nmT c.op = nm at *
  generalize fmL.map encT = fl at *
  generalize Lib.join ws [32] = J at *
  clear hc hr
  obtain ⟨a1, a2, a3, a4, a5, a6, a7, a8, a9, a10, a11⟩ := c
  simp only [encC] at q1 q2 q3 q4 q5 q6 h0 ⊢
  generalize fS a1 = f at *
  have hfl : (f.map encB).length = f.length := List.length_map ..
  rcases hV with rfl | rfl
  ·simp (maxSteps := 4000000) -implicitDefEqProofs (disch := (refine ab ?_; first | assumption | omega | (simp [go_sem] <;> omega) | with_unfolding_all rfl | decide)) only [go_sem, Nat.reduceAdd, Nat.reduceSub, reduceIte, reduceCtorEq, dN, q1, q2, q3, q4, q5, q6, hfl, Bool.not_true]
  ·simp (maxSteps := 4000000) -implicitDefEqProofs (disch := (refine ab ?_; first | assumption | omega | (simp [go_sem] <;> omega) | with_unfolding_all rfl | decide)) only [go_sem, Nat.reduceAdd, Nat.reduceSub, reduceIte, reduceCtorEq, dN, q1, q2, q3, q4, q5, q6, hfl, Bool.not_true]
end Go.Proofs.YtibchilpaaiecaaGreatDoor.L
/- speech.Label: the label of a word, walked. -/
set_option linter.all false
set_option maxRecDepth 100000
set_option maxHeartbeats 32000000
namespace Go.Proofs.YtibchilpaaiecaaGreatDoor.L
open Go.Proofs.YtibchilpaaiecaaGreatDoor.M Go.Proofs.YtibchilpaaiecaaGreatDoor.F Go.Proofs
def HLb (p : List Ent) (r : List UInt8) : AH := [.cells [ow []], .cells [.bool false], .cells [ow (p.map encE)], .cells [.str ⟨r.toArray⟩], .cells [.str ⟨#[44]⟩], .cells [.int .i64 0]]
def entW (w : List UInt8) : Option Ent := if (cutC 61 w).2.2 = true then (atoO (cutC 61 w).2.1).map fun v => ((cutC 61 w).1, v) else none
def labW : List Ent → List (List UInt8) → Option (List Ent)
 | acc, [] => some acc
 | acc, w :: ws => match entW w with
  | some e => labW (acc ++ [e]) ws
  | none => none
def oc : List Ent → List (List UInt8 × List UInt8) → List Ent × List UInt8
 | p, [] => (p, [])
 | p, [(x, r)] => match entW x with
  | some e => (p ++ [e], r)
  | none => (p, r)
 | p, (x, r) :: y :: xs => match entW x with
  | some e => oc (p ++ [e]) (y :: xs)
  | none => (p, r)
def sLb (v0 v1 v5 v6 v7 v8 v9 v10 v11 v12 v13 v14 v16 v17 v18 v19 v20 v21 v22 v23 v24 v25 v26 v27 v28 v29 v30 v31 v32 v33 v34 v35 v36 v37 v38 v39 v40 v41 v42 v43 v44 v45 v46 v47 v48 v15 : AV) : List AV := [v0, v1, .box 0 0, .box 1 0, .box 2 0, v5, v6, v7, v8, v9, v10, v11, v12, v13, v14, v15, v16, v17, v18, v19, v20, v21, v22, v23, v24, v25, v26, v27, v28, v29, v30, v31, v32, v33, v34, v35, v36, v37, v38, v39, v40, v41, v42, v43, v44, v45, v46, v47, v48]
section
variable {v0 v1 v5 v6 v7 v8 v9 v10 v11 v12 v13 v14 v16 v17 v18 v19 v20 v21 v22 v23 v24 v25 v26 v27 v28 v29 v30 v31 v32 v33 v34 v35 v36 v37 v38 v39 v40 v41 v42 v43 v44 v45 v46 v47 v48 : AV}
theorem nM {v15 : AV} {X : List UInt8} : (shL (sLb v0 v1 v5 v6 v7 v8 v9 v10 v11 v12 v13 v14 v16 v17 v18 v19 v20 v21 v22 v23 v24 v25 v26 v27 v28 v29 v30 v31 v32 v33 v34 v35 v36 v37 v38 v39 v40 v41 v42 v43 v44 v45 v46 v47 v48 v15)).set 15 (.str ⟨X.toArray⟩) = sLb (AV.sh v0) (AV.sh v1) (AV.sh v5) (AV.sh v6) (AV.sh v7) (AV.sh v8) (AV.sh v9) (AV.sh v10) (AV.sh v11) (AV.sh v12) (AV.sh v13) (AV.sh v14) (AV.sh v16) (AV.sh v17) (AV.sh v18) (AV.sh v19) (AV.sh v20) (AV.sh v21) (AV.sh v22) (AV.sh v23) (AV.sh v24) (AV.sh v25) (AV.sh v26) (AV.sh v27) (AV.sh v28) (AV.sh v29) (AV.sh v30) (AV.sh v31) (AV.sh v32) (AV.sh v33) (AV.sh v34) (AV.sh v35) (AV.sh v36) (AV.sh v37) (AV.sh v38) (AV.sh v39) (AV.sh v40) (AV.sh v41) (AV.sh v42) (AV.sh v43) (AV.sh v44) (AV.sh v45) (AV.sh v46) (AV.sh v47) (AV.sh v48) (.str ⟨X.toArray⟩) := rfl
theorem Ke {x : List UInt8} {h : AH} : ∃ σ1, den T bO (sLb v0 v1 v5 v6 v7 v8 v9 v10 v11 v12 v13 v14 v16 v17 v18 v19 v20 v21 v22 v23 v24 v25 v26 v27 v28 v29 v30 v31 v32 v33 v34 v35 v36 v37 v38 v39 v40 v41 v42 v43 v44 v45 v46 v47 v48 (.str ⟨x.toArray⟩)) h = some (.normal, σ1, h) := by
 simp -implicitDefEqProofs (disch := (refine ab ?_; first | assumption | omega | (simp [go_sem] <;> omega) | with_unfolding_all rfl | decide)) only [go_sem, Nat.reduceAdd, Nat.reduceSub, reduceIte, reduceCtorEq, sLb]
 exact ⟨_, rfl⟩
theorem rh {x r : List UInt8} {p : List Ent} (hx : x.length ≤ 281474976710656) (hb : entW x = none) : ∃ σ2, den T (.seq bO dU) (sLb v0 v1 v5 v6 v7 v8 v9 v10 v11 v12 v13 v14 v16 v17 v18 v19 v20 v21 v22 v23 v24 v25 v26 v27 v28 v29 v30 v31 v32 v33 v34 v35 v36 v37 v38 v39 v40 v41 v42 v43 v44 v45 v46 v47 v48 (.str ⟨x.toArray⟩)) (HLb p r) = some (.ret, σ2, HLb p r) := by
 have hc := vR (s := x) (c := 61) (h := []) (by omega)
 have hcl := (oz (c := 61) (s := x)).2
 unfold entW at hb
 generalize cutC 61 x = cc at *
 obtain ⟨ca, cb, co⟩ := cc
 simp only at hb hc hcl
 have hn := jz (s := cb) (h := HLb p r) (by omega)
 cases co with
 | true =>
  simp only [if_true, Option.map_eq_none_iff] at hb
  obtain ⟨n, h1⟩ := pR (t := 151) hb
  rw [h1] at hn
  simp only [HLb] at hn
  simp (maxSteps := 2000000) -implicitDefEqProofs (disch := (refine ab ?_; first | assumption | omega | (simp [go_sem] <;> omega) | with_unfolding_all rfl | decide)) only [go_sem, Nat.reduceAdd, Nat.reduceSub, reduceIte, reduceCtorEq, sLb, HLb, hc, hn]
  exact ⟨_, rfl⟩
 | false =>
  cases hv : atoO cb with
  | some v =>
   rw [mY hv] at hn
   simp only [HLb] at hn
   simp (maxSteps := 2000000) -implicitDefEqProofs (disch := (refine ab ?_; first | assumption | omega | (simp [go_sem] <;> omega) | with_unfolding_all rfl | decide)) only [go_sem, Nat.reduceAdd, Nat.reduceSub, reduceIte, reduceCtorEq, sLb, HLb, hc, hn]
   exact ⟨_, rfl⟩
  | none =>
   obtain ⟨n, h1⟩ := pR (t := 151) hv
   rw [h1] at hn
   simp only [HLb] at hn
   simp (maxSteps := 2000000) -implicitDefEqProofs (disch := (refine ab ?_; first | assumption | omega | (simp [go_sem] <;> omega) | with_unfolding_all rfl | decide)) only [go_sem, Nat.reduceAdd, Nat.reduceSub, reduceIte, reduceCtorEq, sLb, HLb, hc, hn]
   exact ⟨_, rfl⟩
theorem uJ {x r : List UInt8} {p : List Ent} {e : Ent} (hx : x.length ≤ 281474976710656) (hb : entW x = some e) (h6 : p.length ≤ 1000000000) :
  ∃ σ2, den T (.seq bO dU) (sLb v0 v1 v5 v6 v7 v8 v9 v10 v11 v12 v13 v14 v16 v17 v18 v19 v20 v21 v22 v23 v24 v25 v26 v27 v28 v29 v30 v31 v32 v33 v34 v35 v36 v37 v38 v39 v40 v41 v42 v43 v44 v45 v46 v47 v48 (.str ⟨x.toArray⟩)) (HLb p r) = some (.normal, σ2, HLb (p ++ [e]) r) := by
 have hc := vR (s := x) (c := 61) (h := []) (by omega)
 have hcl := (oz (c := 61) (s := x)).2
 unfold entW at hb
 generalize cutC 61 x = cc at *
 obtain ⟨ca, cb, co⟩ := cc
 simp only at hb hc hcl
 have hn := jz (s := cb) (h := HLb p r) (by omega)
 cases co with
 | false => simp at hb
 | true =>
  simp only [if_true, Option.map_eq_some_iff] at hb
  obtain ⟨v, hv, rfl⟩ := hb
  rw [mY hv] at hn
  have e1 : (p ++ [(ca, v)]).map encE = p.map encE ++ [[.str ⟨ca.toArray⟩, .int .i64 v]] := by simp [encE]
  have hml : (p.map encE).length = p.length := List.length_map ..
  simp only [HLb] at hn
  simp (maxSteps := 2000000) -implicitDefEqProofs (disch := (refine ab ?_; first | assumption | omega | (simp [go_sem] <;> omega) | with_unfolding_all rfl | decide)) only [go_sem, Nat.reduceAdd, Nat.reduceSub, reduceIte, reduceCtorEq, sLb, HLb, hc, hn, e1, hml]
  exact ⟨_, rfl⟩
theorem Ed {v15 : AV} : ∀ (xs : List (List UInt8 × List UInt8)) (x r : List UInt8) (p : List Ent), (∀ q ∈ (x, r) :: xs, q.1.length ≤ 281474976710656) → p.length + xs.length ≤ 1000000000 →
  rsV (den T bO) (den T dU) 15 3 4 5 44 (sLb v0 v1 v5 v6 v7 v8 v9 v10 v11 v12 v13 v14 v16 v17 v18 v19 v20 v21 v22 v23 v24 v25 v26 v27 v28 v29 v30 v31 v32 v33 v34 v35 v36 v37 v38 v39 v40 v41 v42 v43 v44 v45 v46 v47 v48 v15) ((x, r) :: xs) (HLb p r) = some (if (labW p (x :: xs.map (·.1))).isSome then .normal else .ret, HLb (oc p ((x, r) :: xs)).1 (oc p ((x, r) :: xs)).2) := by
 intro xs
 induction xs with
 | nil =>
  intro x r p hl hp
  have hx := hl (x, r) (by simp)
  have ha : ∃ σ1 h1, den T bO ((shL (sLb v0 v1 v5 v6 v7 v8 v9 v10 v11 v12 v13 v14 v16 v17 v18 v19 v20 v21 v22 v23 v24 v25 v26 v27 v28 v29 v30 v31 v32 v33 v34 v35 v36 v37 v38 v39 v40 v41 v42 v43 v44 v45 v46 v47 v48 v15)).set 15 (.str ⟨x.toArray⟩)) (HLb p r) = some (.normal, σ1, h1) := by
   rw [nM]; obtain ⟨σ1, h1⟩ := Ke; exact ⟨σ1, _, h1⟩
  simp only [List.map_nil, labW, oc]
  cases hb : entW x with
  | none =>
   rw [iQ ha (by rw [nM]; exact rh hx hb)]
   simp
  | some e =>
   rw [kV ha (by rw [nM]; exact uJ hx hb (by omega)) rfl rfl rfl]
   simp
 | cons y xs ih =>
  intro x r p hl hp
  obtain ⟨y, r'⟩ := y
  have hx := hl (x, r) (by simp)
  rw [List.length_cons] at hp
  have ha : ∃ σ1 h1, den T bO ((shL (sLb v0 v1 v5 v6 v7 v8 v9 v10 v11 v12 v13 v14 v16 v17 v18 v19 v20 v21 v22 v23 v24 v25 v26 v27 v28 v29 v30 v31 v32 v33 v34 v35 v36 v37 v38 v39 v40 v41 v42 v43 v44 v45 v46 v47 v48 v15)).set 15 (.str ⟨x.toArray⟩)) (HLb p r) = some (.normal, σ1, h1) := by
   rw [nM]; obtain ⟨σ1, h1⟩ := Ke; exact ⟨σ1, _, h1⟩
  rw [List.map_cons, labW, oc]
  cases hb : entW x with
  | none =>
   rw [iQ ha (by rw [nM]; exact rh hx hb)]
   simp
  | some e =>
   have h1 := ih y r' (p ++ [e]) (fun q hq => hl q (List.mem_cons_of_mem _ hq)) (by simp; omega)
   rw [kV ha (by rw [nM]; exact uJ hx hb (by omega)) rfl rfl rfl]
   have e : (HLb (p ++ [e]) r).set 3 (.cells [.str ⟨r'.toArray⟩]) = HLb (p ++ [e]) r' := rfl
   simp only [e, h1]
theorem xK : ∀ (xs : List (List UInt8 × List UInt8)) (p q : List Ent), labW p (xs.map (·.1)) = some q → (oc p xs).1 = q
 | [], p, q, h => by simpa [labW, oc] using h
 | [(x, r)], p, q, h => by
  simp only [List.map_cons, List.map_nil, labW] at h
  simp only [oc]
  cases hb : entW x with
  | none => rw [hb] at h; cases h
  | some e => rw [hb] at h; simpa using h
 | (x, r) :: y :: xs, p, q, h => by
  rw [List.map_cons, labW] at h
  rw [oc]
  cases hb : entW x with
  | none => rw [hb] at h; cases h
  | some e => rw [hb] at h; exact xK (y :: xs) _ _ h
theorem H8 {v15 : AV} {w : List UInt8} (hw : w.length ≤ 900000000) :
  rsS T (den T bO) (den T dU) 15 (sLb v0 v1 v5 v6 v7 v8 v9 v10 v11 v12 v13 v14 v16 v17 v18 v19 v20 v21 v22 v23 v24 v25 v26 v27 v28 v29 v30 v31 v32 v33 v34 v35 v36 v37 v38 v39 v40 v41 v42 v43 v44 v45 v46 v47 v48 v15) (HLb [] w) (.fn (.func 118) [] [.box 4 0, .box 3 0, .box 5 0]) =
   some (if (labW [] ((au 44 w).map (·.1))).isSome then .normal else .ret, sLb v0 v1 v5 v6 v7 v8 v9 v10 v11 v12 v13 v14 v16 v17 v18 v19 v20 v21 v22 v23 v24 v25 v26 v27 v28 v29 v30 v31 v32 v33 v34 v35 v36 v37 v38 v39 v40 v41 v42 v43 v44 v45 v46 v47 v48 v15, HLb (oc [] (au 44 w)).1 (oc [] (au 44 w)).2) := by
 rw [Bh (c := 44) (s := w) mN (Bg rfl rfl rfl (by decide) (by decide) (by omega))]
 obtain ⟨x, xs, h⟩ := fF 44 w
 have hl : ∀ q ∈ au 44 w, q.1.length ≤ 281474976710656 := fun q hq => Nat.le_trans (ft hq) (by omega)
 have hn : (au 44 w).length ≤ w.length + 1 := by
  have h1 := kW 44 w
  have h2 : ∀ l : List (List UInt8 × List UInt8), l.length ≤ (l.map fun q => q.1.length + 1).sum := fun l => by
   induction l with
   | nil => simp
   | cons a l ih => simp only [List.length_cons, List.map_cons, List.sum_cons]; omega
  have := h2 (au 44 w)
  omega
 rw [h] at hl hn ⊢
 rw [Ed xs x w [] hl (by simp at hn ⊢; omega)]
 rfl
end
def labP (s : List UInt8) : List Ent × Bool :=
 if s = [45] then ([], true) else match labW [] ((au 44 s).map (·.1)) with
  | none => ([], false)
  | some q => if rigL q = true ∧ labT q = s then (q, true) else ([], false)
theorem Ee {w : List UInt8} {e : Ent} (h : entW w = some e) : e.1.length ≤ w.length := by
 unfold entW at h
 split at h
 ·simp only [Option.map_eq_some_iff] at h
  obtain ⟨v, _, rfl⟩ := h
  exact (oz (c := 61) (s := w)).1
 ·cases h
theorem xL {B : Nat} : ∀ (l : List (List UInt8)) (a q : List Ent), labW a l = some q → (∀ w ∈ l, w.length ≤ B) → (∀ e ∈ a, e.1.length ≤ B) → ∀ e ∈ q, e.1.length ≤ B
 | [], a, q, h, _, ha => by simp only [labW, Option.some.injEq] at h; subst h; exact ha
 | w :: l, a, q, h, hl, ha => by
  simp only [labW] at h
  cases hb : entW w with
  | none => rw [hb] at h; cases h
  | some e =>
   rw [hb] at h
   refine xL l _ _ h (fun x hx => hl x (List.mem_cons_of_mem _ hx)) fun x hx => ?_
   rcases List.mem_append.1 hx with hx | hx
   ·exact ha x hx
   ·rw [List.mem_singleton] at hx
    subst hx
    exact Nat.le_trans (Ee hb) (hl w (by simp))
theorem B6 {s : List UInt8} (hs : s.length ≤ 900000000) : run T 16 [.str ⟨s.toArray⟩] [] = some (.tup [.sl .sh ((labP s).1.map encE), .bool (labP s).2], []) := by
 rw [af T_16]
 unfold labP
 by_cases h0 : s = [45]
 ·have e1 : (s == [45]) = true := by rw [h0]; rfl
  rw [if_pos h0]
  simp (maxSteps := 2000000) -implicitDefEqProofs (disch := (refine ab ?_; first | assumption | omega | (simp [go_sem] <;> omega) | with_unfolding_all rfl | decide)) only [go_sem, Nat.reduceAdd, Nat.reduceSub, reduceIte, reduceCtorEq, cL, e1, List.map_nil]
 ·have e1 : (s == [45]) = false := by simpa using h0
  rw [if_neg h0]
  have h3 := pN (s := ⟨s.toArray⟩) (d := ⟨#[44]⟩) (h := [.cells [ow []], .cells [.bool false], .cells [ow []]])
  simp only [List.length_cons, List.length_nil, List.cons_append, List.nil_append, Nat.zero_add, Nat.reduceAdd] at h3
  have h4 := @H8
  simp only [sLb] at h4
  have h5 := fun v0 v1 v5 v6 v7 v8 v9 v10 v11 v12 v13 v14 v16 v17 v18 v19 v20 v21 v22 v23 v24 v25 v26 v27 v28 v29 v30 v31 v32 v33 v34 v35 v36 v37 v38 v39 v40 v41 v42 v43 v44 v45 v46 v47 v48 v15 => @h4 v0 v1 v5 v6 v7 v8 v9 v10 v11 v12 v13 v14 v16 v17 v18 v19 v20 v21 v22 v23 v24 v25 v26 v27 v28 v29 v30 v31 v32 v33 v34 v35 v36 v37 v38 v39 v40 v41 v42 v43 v44 v45 v46 v47 v48 v15 s hs
  clear h4
  have hz := xK (au 44 s) []
  generalize oc [] (au 44 s) = ef at *
  obtain ⟨p', r'⟩ := ef
  cases hp : labW [] ((au 44 s).map (·.1)) with
  | none =>
   simp only [hp, HLb, Option.isSome_none, Bool.false_eq_true, if_false, List.map_nil] at h5 ⊢
   simp (maxSteps := 2000000) -implicitDefEqProofs (disch := (refine ab ?_; first | assumption | omega | (simp [go_sem] <;> omega) | with_unfolding_all rfl | decide)) only [go_sem, Nat.reduceAdd, Nat.reduceSub, reduceIte, reduceCtorEq, cL, e1, h3, h5]
  | some q =>
   have hz' := hz q hp
   simp only at hz'
   subst hz'
   have hlen := xL (B := 900000000) _ _ _ hp (fun w hw => by
    obtain ⟨x, hx, rfl⟩ := List.mem_map.1 hw
    exact Nat.le_trans (ft hx) hs) (fun e he => by cases he)
   simp only [hp, HLb, Option.isSome_some, if_true, List.map_nil] at h5 ⊢
   have h6 := sK (l := p') fun e he => by have := hlen e he; omega
   cases hr : rigL p' with
   | false =>
    rw [hr] at h6
    rw [if_neg (by simp)]
    simp (maxSteps := 2000000) -implicitDefEqProofs (disch := (refine ab ?_; first | assumption | omega | (simp [go_sem] <;> omega) | with_unfolding_all rfl | decide)) only [go_sem, Nat.reduceAdd, Nat.reduceSub, reduceIte, reduceCtorEq, cL, e1, h3, h5, h6, List.map_nil]
   | true =>
    rw [hr] at h6
    have h7 := vX (l := p') (gf hr).1 (by have := (gf hr).2; omega)
    by_cases hd : labT p' = s
    ·have e2 : (labT p' == s) = true := by simp [hd]
     rw [if_pos ⟨rfl, hd⟩]
     simp (maxSteps := 2000000) -implicitDefEqProofs (disch := (refine ab ?_; first | assumption | omega | (simp [go_sem] <;> omega) | with_unfolding_all rfl | decide)) only [go_sem, Nat.reduceAdd, Nat.reduceSub, reduceIte, reduceCtorEq, cL, e1, h3, h5, h6, h7, e2, Bool.not_true]
    ·have e2 : (labT p' == s) = false := by simp [hd]
     rw [if_neg (by simp [hd])]
     simp (maxSteps := 2000000) -implicitDefEqProofs (disch := (refine ab ?_; first | assumption | omega | (simp [go_sem] <;> omega) | with_unfolding_all rfl | decide)) only [go_sem, Nat.reduceAdd, Nat.reduceSub, reduceIte, reduceCtorEq, cL, e1, h3, h5, h6, h7, e2, Bool.not_false, List.map_nil]
end Go.Proofs.YtibchilpaaiecaaGreatDoor.L
